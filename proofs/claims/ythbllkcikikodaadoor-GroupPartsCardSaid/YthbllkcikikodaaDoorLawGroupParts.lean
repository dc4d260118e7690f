/- The law 'GroupParts' answers true at every input, and leaves its arguments as they were; the listed table starts as the program's text lays it (the given tie). (The frame was written by the guide's proof-skeleton.mjs.) -/
import Derived.Test.YthbllkcikikodaaDoorRows
import Derived.WalkKit
import Derived.ProofKit
import Derived.OpenShut
import Derived.Test.YthbllkcikikodaaDoorTie
import Derived.Test.YthbllkcikikodaaDoorCards
import Derived.SevenTiedAt
import Derived.Test.YthbllkcikikodaaDoorMore
namespace Go.Proofs.YthbllkcikikodaaDoor.groupParts
open Go.ChangeShapes Go.WideShapes Go.ChangeAt Go.RowKit
set_option linter.unusedVariables false      -- a walk need not use every 'w<i>' (that an integer argument fits its kind)


/-! ### STEP 1: THE WALK: the Go text returns true. the world has at most new blocks. Part the cases AHEAD of 'go_enter' where a test parts the walk; take each callee by a contract of your own. -/
set_option maxRecDepth 100000 in
set_option maxHeartbeats 4000000 in
theorem walk (a0 : Int) (w0 : (Lit.int .u64 a0).wf = true) (w : World) (hS : Sh w) :
    Calls Tryd.prog 8 #[.int .u64 a0] w fun e w' => e = .returned (.bool true) ∧ Below w.heap.size w w' := by
  have b0 := Go.bounds_u64 w0
  obtain ⟨x, rfl⟩ := Int.eq_ofNat_of_zero_le b0.1
  have HX : Hid (x < 18446744073709551616) := by show _ < _; omega
  have HS := Lib.hid hS
  clear b0 w0 hS
  have h1 : bits .and .u8 ((ful x : Nat) : Int) ((fre x : Nat) : Int) = 0 := by rw [u8_and _ _ (ful_lt x) (fre_lt x), full_free]; rfl
  have h2 := emp_free x
  have HOR : Hid (bits .or .u8 ((ful x : Nat) : Int) ((fre x : Nat) : Int) = ((ful x ||| fre x : Nat) : Int)) := u8_or _ _ (ful_lt x) (fre_lt x)
  have HLT : Hid (ful x ||| fre x < 256) := Nat.or_lt_two_pow (n := 8) (by simpa using ful_lt x) (by simpa using fre_lt x)
  have HBT : Hid (∀ k, k < 8 → (ful x ||| fre x).testBit k = (decide (gt x k < 128) || (gt x k == 128 || gt x k == 254))) := fun k hk => by rw [Nat.testBit_or, ful_bit hk, fre_bit hk]
  have HN1 : Hid (ful 9259542123273814144 = 0) := by show _ = _; decide +kernel
  have HN2 : Hid (mch 9259542123273814144 128 = 255) := by show _ = _; decide +kernel
  generalize hff : ful x = ff at *
  generalize hrr : fre x = rr at *
  generalize ff ||| rr = u at *
  have HFF := Lib.hid hff
  have HRR := Lib.hid hrr
  clear hff hrr
  go_enter Tryd.func8, Tryd.ntmps8
  go_wp2_with fail
  refine (full_any x HX.out _).mono ?_
  rintro e w' ⟨rfl, rfl⟩
  rw [HFF.out]
  go_wp2_with fail
  refine (free_any x HX.out _).mono ?_
  rintro e w' ⟨rfl, rfl⟩
  rw [HRR.out]
  go_wp2_with fail
  refine (empties_any x HX.out _).mono ?_
  rintro e w' ⟨rfl, rfl⟩
  go_wp2_with fail
  clear h1 h2
  go_loop [5, 6, 7] (fun t _ _ => ∃ j : Nat, j ≤ 8 ∧ t = .int .i64 j) (fun t _ _ => 8 - (intOf t).toNat)
  case atStart => exact ⟨0, by omega, rfl⟩
  case round =>
    obtain ⟨j, hj, rfl⟩ := hrel
    by_cases hlt : j < 8
    · have HIX := Lib.hid (ix_nat hlt)
      have hbt := HBT.out j hlt
      have hb8 := bit8 u j HLT.out hlt
      rw [hbt] at hb8
      clear hbt
      have hor := HOR.out
      have hc256 := gt_lt x j
      generalize hcc : gt x j = c at *
      have HCC := Lib.hid hcc
      clear hcc
      by_cases hc1 : c < 128
      · have d1 : decide ((c : Int) < 128) = true := decide_eq_true (by omega)
        have hb9 : bits .and .u8 ((u : Int) / 2 ^ j) 1 = 1 := by rw [hb8]; simp [hc1]
        clear hb8
        go_wp2_with (go_at_call 16; refine (get_any x _ HX.out _ HS.out).mono ?_; rintro e w' ⟨rfl, rfl⟩; rw [HIX.out, HCC.out])
        go_round
        case rel => exact ⟨j + 1, hlt, by simp⟩
        case measure => simp [intOf]; omega
      · have d1 : decide ((c : Int) < 128) = false := decide_eq_false (by omega)
        by_cases hc2 : c = 128
        · have hb9 : bits .and .u8 ((u : Int) / 2 ^ j) 1 = 1 := by rw [hb8]; simp [hc2]
          have d2 : ((c : Int) == 128) = true := by rw [beq_iff_eq]; omega
          clear hb8 hc2
          go_wp2_with (go_at_call 16; refine (get_any x _ HX.out _ HS.out).mono ?_; rintro e w' ⟨rfl, rfl⟩; rw [HIX.out, HCC.out])
          go_round
          case rel => exact ⟨j + 1, hlt, by simp⟩
          case measure => simp [intOf]; omega
        · have d2 : ((c : Int) == 128) = false := by rw [beq_eq_false_iff_ne]; omega
          by_cases hc3 : c = 254
          · have hb9 : bits .and .u8 ((u : Int) / 2 ^ j) 1 = 1 := by rw [hb8]; simp [hc3]
            have d3 : ((c : Int) == 254) = true := by rw [beq_iff_eq]; omega
            clear hb8 hc3 hc2
            go_wp2_with (go_at_call 16; refine (get_any x _ HX.out _ HS.out).mono ?_; rintro e w' ⟨rfl, rfl⟩; rw [HIX.out, HCC.out])
            go_round
            case rel => exact ⟨j + 1, hlt, by simp⟩
            case measure => simp [intOf]; omega
          · have d3 : ((c : Int) == 254) = false := by rw [beq_eq_false_iff_ne]; omega
            have hb9 : bits .and .u8 ((u : Int) / 2 ^ j) 1 = 0 := by rw [hb8]; simp [hc1, hc2, hc3]
            clear hb8 hc3 hc2
            go_wp2_with (go_at_call 16; refine (get_any x _ HX.out _ HS.out).mono ?_; rintro e w' ⟨rfl, rfl⟩; rw [HIX.out, HCC.out])
            go_round
            case rel => exact ⟨j + 1, hlt, by simp⟩
            case measure => simp [intOf]; omega
    · have hd : decide ((j : Int) < 8) = false := decide_eq_false (by omega)
      go_wp2_with fail
      refine (full_any 9259542123273814144 (by omega) _).mono ?_
      rintro e w' ⟨rfl, rfl⟩
      rw [HN1.out]
      go_wp2_with fail
      refine (empties_any 9259542123273814144 (by omega) _).mono ?_
      rintro e w' ⟨rfl, rfl⟩
      rw [HN2.out]
      go_wp2_with (go_at_call 15; refine (lives_any _ HS.out).mono ?_; rintro e w2 ⟨rfl, hB2⟩)
      go_ret
      exact ⟨rfl, hB2⟩

/-! ### THE ROW's STEP: WRITTEN OUT: LEAVE IT -/
set_option maxRecDepth 100000 in
theorem lifted (os : Os) (started : os.Started) (H : Type) (enc : TypeId × Value → H) :
    ReturnsInHanded {} Tryd.checked os 8 .any (fun w args => (Rows.groupPartsSpec.pre enc Tryd.prog Tryd.f8 [] false w args ∧ laidMetH Tryd.prog [("corbel/group.shifts", Rows.laid_corbel_group_shifts)] w) ∧ sizedMet enc Tryd.prog Tryd.f8 (OpenSpec.ofChange Rows.groupPartsSpec) false w args)
      (Rows.groupPartsSpec.post enc Tryd.prog Tryd.f8 false true false false) := by
  refine returnsInHanded_of_change_and (C := Tryd.checked) (X := fun w _ => laidMetH Tryd.prog [("corbel/group.shifts", Rows.laid_corbel_group_shifts)] w) (fun _ _ _ hh h => h.of_heap hh) own started (by kernel_rfl) Tryd.func8
    (ChangeSpec.witness_at (enc := enc) (C := Tryd.checked) (os := os) (X := fun w _ => laidMetH Tryd.prog [("corbel/group.shifts", Rows.laid_corbel_group_shifts)] w) false (laidWorld os) #[.int .u64 0] 8 rfl (by kernel_rfl) (by kernel_rfl) (by kernel_rfl) (by kernel_rfl) (by kernel_rfl) (laidWorld_met os _)) ?_
  intro W base args ds gs before hval0 hW hcnd _ hL _
  have hval : ∀ (j : Nat) t v, Tryd.f8.params[j]? = some t → args[j]? = some v → Value.okWide Tryd.prog W .any base t v := hval0
  have hW' := hW
  obtain ⟨p, q, hA0, hV, rfl, hfz, hnd⟩ := hW
  have hA : DataW.TrodAll enc Tryd.prog W 0 (fun _ => true) true Tryd.f8.params.toList args.toList ds p := hA0
  rw [Tryd.params8] at hA hval
  obtain ⟨v0, vs0, d0, ds0, p0, q0, hargs, rfl, rfl, h0, r0⟩ := trodAll_cons hA
  obtain ⟨rfl, rfl, rfl⟩ := trodAll_nil r0
  obtain rfl : args = #[v0] := by cases args; simp_all
  obtain ⟨rfl, rfl⟩ := trodVars_none hV
  obtain ⟨a0, rfl, rfl, rfl, w0⟩ := open_int Tryd.underlying27 (hval 0 27 v0 rfl rfl) h0
  clear hA0 hval0
  simp only [List.append_nil] at hW'
  refine (walk a0 w0 W (sh_of_laid hL)).mono fun e W' ⟨he, hg⟩ => ?_
  subst he
  exact ⟨_, rfl, _, _, _, [], _, [], hW', (trodAll_cons_mk (shut_bool Tryd.underlying4 _) trodAll_mk0), (trodAll_cons_mk (shut_int Tryd.underlying27 w0) trodAll_mk0), rfl, hg.frame _, fun h => by cases h⟩

theorem over : Rows.groupPartsRow.holds Tryd.pinned (OpenSpec.ofChange Rows.groupPartsSpec) :=
  OpenClaim.holds_of_wide 8 Tryd.f8 rfl rfl rfl rfl rfl rfl rfl ⟨rfl, rfl, rfl, rfl, rfl⟩ rfl rfl rfl rfl rfl (by kernel_rfl) Tryd.func8 (by kernel_rfl)
    (of_decide_eq_true (by kernel_rfl)) (by unfold Func.isWrapper; first | (rw [if_pos (by decide +kernel)]; kernel_rfl) | (rw [if_neg (by decide +kernel)]; exact ⟨rfl, rfl⟩))
    (fun os started H enc _ => lifted os started H enc)

/-- ████ THE STATEMENT ████ -/
theorem proved : Rows.GroupPartsCardSaid :=
  Claim7.holds_tied_plain_at .later [] [.data] true (true, "af04a548b17130e2969736a57204b60ec3ecb51b52b07ffecddf88a4ee7479c2") false
    over (fun _ h => by cases h) (by kernel_rfl) (fun _ h => by cases h) groupParts_row_tie rfl ⟨rfl, rfl⟩ (by kernel_rfl) rfl
    (fun f fn hf hfn => by
      obtain rfl : f = 8 := Option.some.inj ((show Tryd.prog.funcNamed "corbel/corbellaw03.GroupParts" = some 8 by kernel_rfl).symm.trans hf) |>.symm
      obtain rfl : fn = Tryd.f8 := (Option.some.inj (Tryd.func8.symm.trans hfn)).symm
      refine ⟨by kernel_rfl, fun j t ht => ?_⟩
      have hm := Array.mem_of_getElem? ht
      rw [Tryd.params8] at hm
      simp only [List.mem_toArray, List.mem_cons, List.not_mem_nil, or_false] at hm
      rcases hm with rfl
      · exact (show Tryd.prog.wantsStandIn 27 = false by kernel_rfl))
    (by kernel_rfl)
#print axioms proved
end Go.Proofs.YthbllkcikikodaaDoor.groupParts
