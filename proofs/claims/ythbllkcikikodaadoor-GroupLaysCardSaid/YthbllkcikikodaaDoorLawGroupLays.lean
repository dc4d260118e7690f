/- The law 'GroupLays' answers true at every input, and leaves its arguments as they were; the listed table starts as the program's text lays it (the given tie). (The frame was written by the guide's proof-skeleton.mjs.) -/
import Derived.Test.YthbllkcikikodaaDoorRows
import Derived.WalkKit
import Derived.ProofKit
import Derived.OpenShut
import Derived.Test.YthbllkcikikodaaDoorTie
import Derived.Test.YthbllkcikikodaaDoorCards
import Derived.SevenTiedAt
import Derived.Test.YthbllkcikikodaaDoorMore
namespace Go.Proofs.YthbllkcikikodaaDoor.groupLays
open Go.ChangeShapes Go.WideShapes Go.ChangeAt Go.RowKit
set_option linter.unusedVariables false      -- a walk need not use every 'w<i>' (that an integer argument fits its kind)


/-! ### STEP 1: THE WALK: the Go text returns true. the world has at most new blocks. Part the cases AHEAD of 'go_enter' where a test parts the walk; take each callee by a contract of your own. -/
theorem walk (a0 : Int) (a1 : Int) (a2 : Int) (w0 : (Lit.int .u64 a0).wf = true) (w1 : (Lit.int .i64 a1).wf = true) (w2 : (Lit.int .u8 a2).wf = true) (w : World) (hS : Sh w) :
    Calls Tryd.prog 6 #[.int .u64 a0, .int .i64 a1, .int .u8 a2] w fun e w' => e = .returned (.bool true) ∧ Below w.heap.size w w' := by
  have b0 := Go.bounds_u64 w0
  have b2 := Go.bounds_u8 w2
  obtain ⟨x, rfl⟩ := Int.eq_ofNat_of_zero_le b0.1
  obtain ⟨c, rfl⟩ := Int.eq_ofNat_of_zero_le b2.1
  have HX : Hid (x < 18446744073709551616) := by show _ < _; omega
  have HC : Hid (c < 256) := by show _ < _; omega
  have HS := Lib.hid hS
  clear b0 b2 w0 w1 w2 hS
  have h7 := and7 a1
  have hk := ix_lt a1
  have HK := Lib.hid (rfl : ix a1 = ix a1)
  have HY : Hid (st x (ix a1) c < 18446744073709551616) := st_lt HC.out
  have HG : Hid (gt (st x (ix a1) c) (ix a1) = c) := gt_st_same hk HC.out
  have HM : Hid (bits .and .u8 ((mch (st x (ix a1) c) c : Nat) / 2 ^ (ix a1) : Int) 1 = 1) := by
    show _ = _
    rw [bit8 _ _ (mch_lt _ _) hk, mch_bit hk, gt_st_same hk HC.out]; simp
  have HB : Hid (st (st x (ix a1) c) (ix a1) (gt x (ix a1)) = x) := st_back HX.out hk HC.out
  have HO : Hid (∀ j, j ≠ ix a1 → gt (st x (ix a1) c) j = gt x j) := fun j hj => gt_st_other HC.out hj
  have HGL : Hid (gt x (ix a1) < 256) := gt_lt _ _
  generalize hkk : ix a1 = k at *
  have HKK := Lib.hid hkk
  clear hkk HK
  generalize hyy : st x k c = y at *
  have HYY := Lib.hid hyy
  clear hyy
  have hcc : ((c : Int) != (c : Int)) = false := by simp
  have hxx : ((x : Int) != (x : Int)) = false := by simp
  go_enter Tryd.func6, Tryd.ntmps6
  go_wp2_with fail
  refine (set_any x c a1 HX.out HC.out _ HS.out).mono ?_
  rintro e w' ⟨rfl, rfl⟩
  rw [HKK.out, HYY.out]
  go_wp2_with fail
  refine (get_any y a1 HY.out _ HS.out).mono ?_
  rintro e w' ⟨rfl, rfl⟩
  rw [HKK.out, HG.out]
  have hm := HM.out
  go_wp2_with fail
  refine (match_any y c HY.out HC.out _).mono ?_
  rintro e w' ⟨rfl, rfl⟩
  go_wp2_with fail
  refine (get_any x a1 HX.out _ HS.out).mono ?_
  rintro e w' ⟨rfl, rfl⟩
  rw [HKK.out]
  go_wp2_with fail
  refine (set_any y (gt x k) a1 HY.out HGL.out _ HS.out).mono ?_
  rintro e w' ⟨rfl, rfl⟩
  rw [HKK.out, HB.out]
  clear hm
  go_wp2_with fail
  clear hcc hxx h7
  go_loop [9] (fun t => ∃ j : Nat, j ≤ 8 ∧ t = .int .i64 j) (fun t => 8 - (intOf t).toNat)
  case atStart => exact ⟨0, by omega, rfl⟩
  case round =>
    obtain ⟨j, hj, rfl⟩ := hrel
    by_cases hlt : j < 8
    · have HIX := Lib.hid (ix_nat hlt)
      by_cases hjk : j = k
      · subst hjk
        have hd : ((j : Int) != (j : Int)) = false := by simp
        go_wp2
        go_round
        case rel => exact ⟨j + 1, hlt, by simp⟩
        case measure => simp [intOf]; omega
      · have hd : ((j : Int) != (k : Int)) = true := by rw [bne_iff_ne]; omega
        have HE := Lib.hid (HO.out j hjk)
        have hgg : ((gt x j : Int) != (gt x j : Int)) = false := by simp
        clear hjk
        go_wp2_with fail
        refine (get_any y _ HY.out _ HS.out).mono ?_
        rintro e w' ⟨rfl, rfl⟩
        rw [HIX.out, HE.out]
        go_wp2_with fail
        refine (get_any x _ HX.out _ HS.out).mono ?_
        rintro e w' ⟨rfl, rfl⟩
        rw [HIX.out]
        go_wp2
        go_round
        case rel => exact ⟨j + 1, hlt, by simp⟩
        case measure => simp [intOf]; omega
    · have hd : decide ((j : Int) < 8) = false := decide_eq_false (by omega)
      go_wp2_with (go_at_call 15; refine (lives_any _ HS.out).mono ?_; rintro e w2 ⟨rfl, hB2⟩)
      go_ret
      exact ⟨rfl, hB2⟩

/-! ### THE ROW's STEP: WRITTEN OUT: LEAVE IT -/
set_option maxRecDepth 100000 in
theorem lifted (os : Os) (started : os.Started) (H : Type) (enc : TypeId × Value → H) :
    ReturnsInHanded {} Tryd.checked os 6 .any (fun w args => (Rows.groupLaysSpec.pre enc Tryd.prog Tryd.f6 [] false w args ∧ laidMetH Tryd.prog [("corbel/group.shifts", Rows.laid_corbel_group_shifts)] w) ∧ sizedMet enc Tryd.prog Tryd.f6 (OpenSpec.ofChange Rows.groupLaysSpec) false w args)
      (Rows.groupLaysSpec.post enc Tryd.prog Tryd.f6 false true false false) := by
  refine returnsInHanded_of_change_and (C := Tryd.checked) (X := fun w _ => laidMetH Tryd.prog [("corbel/group.shifts", Rows.laid_corbel_group_shifts)] w) (fun _ _ _ hh h => h.of_heap hh) own started (by kernel_rfl) Tryd.func6
    (ChangeSpec.witness_at (enc := enc) (C := Tryd.checked) (os := os) (X := fun w _ => laidMetH Tryd.prog [("corbel/group.shifts", Rows.laid_corbel_group_shifts)] w) false (laidWorld os) #[.int .u64 0, .int .i64 0, .int .u8 0] 8 rfl (by kernel_rfl) (by kernel_rfl) (by kernel_rfl) (by kernel_rfl) (by kernel_rfl) (laidWorld_met os _)) ?_
  intro W base args ds gs before hval0 hW hcnd _ hL _
  have hval : ∀ (j : Nat) t v, Tryd.f6.params[j]? = some t → args[j]? = some v → Value.okWide Tryd.prog W .any base t v := hval0
  have hW' := hW
  obtain ⟨p, q, hA0, hV, rfl, hfz, hnd⟩ := hW
  have hA : DataW.TrodAll enc Tryd.prog W 0 (fun _ => true) true Tryd.f6.params.toList args.toList ds p := hA0
  rw [Tryd.params6] at hA hval
  obtain ⟨v0, vs0, d0, ds0, p0, q0, hargs, rfl, rfl, h0, r0⟩ := trodAll_cons hA
  obtain ⟨v1, vs1, d1, ds1, p1, q1, rfl, rfl, rfl, h1, r1⟩ := trodAll_cons r0
  obtain ⟨v2, vs2, d2, ds2, p2, q2, rfl, rfl, rfl, h2, r2⟩ := trodAll_cons r1
  obtain ⟨rfl, rfl, rfl⟩ := trodAll_nil r2
  obtain rfl : args = #[v0, v1, v2] := by cases args; simp_all
  obtain ⟨rfl, rfl⟩ := trodVars_none hV
  obtain ⟨a0, rfl, rfl, rfl, w0⟩ := open_int Tryd.underlying27 (hval 0 27 v0 rfl rfl) h0
  obtain ⟨a1, rfl, rfl, rfl, w1⟩ := open_int Tryd.underlying3 (hval 1 3 v1 rfl rfl) h1
  obtain ⟨a2, rfl, rfl, rfl, w2⟩ := open_int Tryd.underlying5 (hval 2 5 v2 rfl rfl) h2
  clear hA0 hval0
  simp only [List.append_nil] at hW'
  refine (walk a0 a1 a2 w0 w1 w2 W (sh_of_laid hL)).mono fun e W' ⟨he, hg⟩ => ?_
  subst he
  exact ⟨_, rfl, _, _, _, [], _, [], hW', (trodAll_cons_mk (shut_bool Tryd.underlying4 _) trodAll_mk0), (trodAll_cons_mk (shut_int Tryd.underlying27 w0) (trodAll_cons_mk (shut_int Tryd.underlying3 w1) (trodAll_cons_mk (shut_int Tryd.underlying5 w2) trodAll_mk0))), rfl, hg.frame _, fun h => by cases h⟩

theorem over : Rows.groupLaysRow.holds Tryd.pinned (OpenSpec.ofChange Rows.groupLaysSpec) :=
  OpenClaim.holds_of_wide 6 Tryd.f6 rfl rfl rfl rfl rfl rfl rfl ⟨rfl, rfl, rfl, rfl, rfl⟩ rfl rfl rfl rfl rfl (by kernel_rfl) Tryd.func6 (by kernel_rfl)
    (of_decide_eq_true (by kernel_rfl)) (by unfold Func.isWrapper; first | (rw [if_pos (by decide +kernel)]; kernel_rfl) | (rw [if_neg (by decide +kernel)]; exact ⟨rfl, rfl⟩))
    (fun os started H enc _ => lifted os started H enc)

/-- ████ THE STATEMENT ████ -/
theorem proved : Rows.GroupLaysCardSaid :=
  Claim7.holds_tied_plain_at .later [] [.data] true (true, "af04a548b17130e2969736a57204b60ec3ecb51b52b07ffecddf88a4ee7479c2") false
    over (fun _ h => by cases h) (by kernel_rfl) (fun _ h => by cases h) groupLays_row_tie rfl ⟨rfl, rfl⟩ (by kernel_rfl) rfl
    (fun f fn hf hfn => by
      obtain rfl : f = 6 := Option.some.inj ((show Tryd.prog.funcNamed "corbel/corbellaw03.GroupLays" = some 6 by kernel_rfl).symm.trans hf) |>.symm
      obtain rfl : fn = Tryd.f6 := (Option.some.inj (Tryd.func6.symm.trans hfn)).symm
      refine ⟨by kernel_rfl, fun j t ht => ?_⟩
      have hm := Array.mem_of_getElem? ht
      rw [Tryd.params6] at hm
      simp only [List.mem_toArray, List.mem_cons, List.not_mem_nil, or_false] at hm
      rcases hm with rfl | rfl | rfl
      · exact (show Tryd.prog.wantsStandIn 27 = false by kernel_rfl)
      · exact (show Tryd.prog.wantsStandIn 3 = false by kernel_rfl)
      · exact (show Tryd.prog.wantsStandIn 5 = false by kernel_rfl))
    (by kernel_rfl)
#print axioms proved
end Go.Proofs.YthbllkcikikodaaDoor.groupLays
