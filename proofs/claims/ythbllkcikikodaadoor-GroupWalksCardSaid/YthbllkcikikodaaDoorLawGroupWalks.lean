/- The law 'GroupWalks' answers true at every input, and leaves its arguments as they were; the listed table starts as the program's text lays it (the given tie). (The frame was written by the guide's proof-skeleton.mjs.) -/
import Derived.Test.YthbllkcikikodaaDoorRows
import Derived.WalkKit
import Derived.ProofKit
import Derived.OpenShut
import Derived.Test.YthbllkcikikodaaDoorTie
import Derived.Test.YthbllkcikikodaaDoorCards
import Derived.SevenTiedAt
import Derived.Test.YthbllkcikikodaaDoorMore
namespace Go.Proofs.YthbllkcikikodaaDoor.groupWalks
open Go.ChangeShapes Go.WideShapes Go.ChangeAt Go.RowKit
set_option linter.unusedVariables false      -- a walk need not use every 'w<i>' (that an integer argument fits its kind)


/-! ### STEP 1: THE WALK: the Go text returns true. the world has at most new blocks. Part the cases AHEAD of 'go_enter' where a test parts the walk; take each callee by a contract of your own. -/
set_option maxRecDepth 100000 in
set_option maxHeartbeats 4000000 in
theorem walk (a0 : Int) (w0 : (Lit.int .u8 a0).wf = true) (w : World) (hS : Sh w) :
    Calls Tryd.prog 4 #[.int .u8 a0] w fun e w' => e = .returned (.bool true) ∧ Below w.heap.size w w' := by
  have b0 := Go.bounds_u8 w0
  obtain ⟨x, rfl⟩ := Int.eq_ofNat_of_zero_le b0.1
  have HX : Hid (x < 256) := by show _ < _; omega
  have HS := Lib.hid hS
  have hc8 := (sets_all ⟨x, HX.out⟩).2.2.2.1
  simp only at hc8
  clear b0 w0 hS
  go_enter Tryd.func4, Tryd.ntmps4
  go_wp2
  go_loop [3, 4, 5, 6, 7] (fun tn tl to ts _ => ∃ (k o y : Nat) (l : Int), tn = .int .i64 k ∧ tl = .int .i64 l ∧ to = .int .u8 (o : Int) ∧ ts = .int .u8 (y : Int) ∧ y < 256 ∧ -1 ≤ l ∧ Hid (WalkAt x k o y l)) (fun _ _ _ ts _ => (intOf ts).toNat)
  case atStart => exact ⟨0, 0, x, -1, rfl, rfl, rfl, rfl, HX.out, by omega, WalkAt.start HX.out⟩
  case round =>
    obtain ⟨k, o, y, l, rfl, rfl, rfl, rfl, hy, hl, HW⟩ := hrel
    have hk8 : k ≤ 8 := by have := HW.out.2.1; omega
    by_cases h0 : y = 0
    · have hz : ((y : Int) != 0) = false := by simp [h0]
      obtain ⟨e1, e2⟩ := HW.out.ends h0
      have HE1 := Lib.hid e1
      have HE2 := Lib.hid e2
      have hxx : ((x : Int) == (x : Int)) = true := by simp
      subst e1
      subst h0
      clear e2
      have hkk : ((cntF o : Int) == (cntF o : Int)) = true := by simp
      have hF0 : Hid (firstF 0 = 8) := by show _ = _; decide +kernel
      go_wp2_with fail
      refine (count_any o HX.out _).mono ?_
      rintro e w1 ⟨rfl, hB⟩
      rw [← HE2.out]
      have hkk2 : ((k : Int) == (k : Int)) = true := by simp
      go_wp2_with fail
      refine (first_any 0 (by omega) _).mono ?_
      rintro e w' ⟨rfl, rfl⟩
      rw [hF0.out]
      go_wp2_with (go_at_call 15; refine (lives_any _ (HS.out.below hB)).mono ?_; rintro e w2 ⟨rfl, hB2⟩)
      go_ret
      exact ⟨rfl, hB.trans (hB2.mono hB.size)⟩
    · have hz : ((y : Int) != 0) = true := by rw [bne_iff_ne]; omega
      obtain ⟨hn1, hn2, hn3, ⟨hn4, hn6⟩, hn5⟩ := HW.out.next hy h0
      have HN := Lib.hid hn5
      have HF : Hid (firstF y = firstF y) := rfl
      have hd9 : decide ((k : Int) < 9) = true := decide_eq_true (by omega)
      have hor := or_u8 hn3 (by omega)
      generalize hff : firstF y = f at *
      have HFF := Lib.hid hff
      clear hff HF
      have hd1 : decide ((f : Int) ≤ l) = false := decide_eq_false (by omega)
      have hd2 : decide (7 < (f : Int)) = false := decide_eq_false (by omega)
      have hd3 : decide (7 < f) = false := decide_eq_false (by omega)
      go_wp2_with (first | (go_at_call 9; refine (first_any y hy _).mono ?_; rintro e w' ⟨rfl, rfl⟩; rw [HFF.out]) | (go_at_call 11; refine (next_any y hy _).mono ?_; rintro e w' ⟨rfl, rfl⟩))
      go_round
      case rel => exact ⟨k + 1, o + 2 ^ f, nextF y, f, by simp, rfl, rfl, rfl, hn4, by omega, HN.out⟩
      case measure => simp [intOf]; omega

/-! ### THE ROW's STEP: WRITTEN OUT: LEAVE IT -/
set_option maxRecDepth 100000 in
theorem lifted (os : Os) (started : os.Started) (H : Type) (enc : TypeId × Value → H) :
    ReturnsInHanded {} Tryd.checked os 4 .any (fun w args => (Rows.groupWalksSpec.pre enc Tryd.prog Tryd.f4 [] false w args ∧ laidMetH Tryd.prog [("corbel/group.shifts", Rows.laid_corbel_group_shifts)] w) ∧ sizedMet enc Tryd.prog Tryd.f4 (OpenSpec.ofChange Rows.groupWalksSpec) false w args)
      (Rows.groupWalksSpec.post enc Tryd.prog Tryd.f4 false true false false) := by
  refine returnsInHanded_of_change_and (C := Tryd.checked) (X := fun w _ => laidMetH Tryd.prog [("corbel/group.shifts", Rows.laid_corbel_group_shifts)] w) (fun _ _ _ hh h => h.of_heap hh) own started (by kernel_rfl) Tryd.func4
    (ChangeSpec.witness_at (enc := enc) (C := Tryd.checked) (os := os) (X := fun w _ => laidMetH Tryd.prog [("corbel/group.shifts", Rows.laid_corbel_group_shifts)] w) false (laidWorld os) #[.int .u8 0] 8 rfl (by kernel_rfl) (by kernel_rfl) (by kernel_rfl) (by kernel_rfl) (by kernel_rfl) (laidWorld_met os _)) ?_
  intro W base args ds gs before hval0 hW hcnd _ hL _
  have hval : ∀ (j : Nat) t v, Tryd.f4.params[j]? = some t → args[j]? = some v → Value.okWide Tryd.prog W .any base t v := hval0
  have hW' := hW
  obtain ⟨p, q, hA0, hV, rfl, hfz, hnd⟩ := hW
  have hA : DataW.TrodAll enc Tryd.prog W 0 (fun _ => true) true Tryd.f4.params.toList args.toList ds p := hA0
  rw [Tryd.params4] at hA hval
  obtain ⟨v0, vs0, d0, ds0, p0, q0, hargs, rfl, rfl, h0, r0⟩ := trodAll_cons hA
  obtain ⟨rfl, rfl, rfl⟩ := trodAll_nil r0
  obtain rfl : args = #[v0] := by cases args; simp_all
  obtain ⟨rfl, rfl⟩ := trodVars_none hV
  obtain ⟨a0, rfl, rfl, rfl, w0⟩ := open_int Tryd.underlying5 (hval 0 5 v0 rfl rfl) h0
  clear hA0 hval0
  simp only [List.append_nil] at hW'
  refine (walk a0 w0 W (sh_of_laid hL)).mono fun e W' ⟨he, hg⟩ => ?_
  subst he
  exact ⟨_, rfl, _, _, _, [], _, [], hW', (trodAll_cons_mk (shut_bool Tryd.underlying4 _) trodAll_mk0), (trodAll_cons_mk (shut_int Tryd.underlying5 w0) trodAll_mk0), rfl, hg.frame _, fun h => by cases h⟩

theorem over : Rows.groupWalksRow.holds Tryd.pinned (OpenSpec.ofChange Rows.groupWalksSpec) :=
  OpenClaim.holds_of_wide 4 Tryd.f4 rfl rfl rfl rfl rfl rfl rfl ⟨rfl, rfl, rfl, rfl, rfl⟩ rfl rfl rfl rfl rfl (by kernel_rfl) Tryd.func4 (by kernel_rfl)
    (of_decide_eq_true (by kernel_rfl)) (by unfold Func.isWrapper; first | (rw [if_pos (by decide +kernel)]; kernel_rfl) | (rw [if_neg (by decide +kernel)]; exact ⟨rfl, rfl⟩))
    (fun os started H enc _ => lifted os started H enc)

/-- ████ THE STATEMENT ████ -/
theorem proved : Rows.GroupWalksCardSaid :=
  Claim7.holds_tied_plain_at .later [] [.data] true (true, "af04a548b17130e2969736a57204b60ec3ecb51b52b07ffecddf88a4ee7479c2") false
    over (fun _ h => by cases h) (by kernel_rfl) (fun _ h => by cases h) groupWalks_row_tie rfl ⟨rfl, rfl⟩ (by kernel_rfl) rfl
    (fun f fn hf hfn => by
      obtain rfl : f = 4 := Option.some.inj ((show Tryd.prog.funcNamed "corbel/corbellaw03.GroupWalks" = some 4 by kernel_rfl).symm.trans hf) |>.symm
      obtain rfl : fn = Tryd.f4 := (Option.some.inj (Tryd.func4.symm.trans hfn)).symm
      refine ⟨by kernel_rfl, fun j t ht => ?_⟩
      have hm := Array.mem_of_getElem? ht
      rw [Tryd.params4] at hm
      simp only [List.mem_toArray, List.mem_cons, List.not_mem_nil, or_false] at hm
      rcases hm with rfl
      · exact (show Tryd.prog.wantsStandIn 5 = false by kernel_rfl))
    (by kernel_rfl)
#print axioms proved
end Go.Proofs.YthbllkcikikodaaDoor.groupWalks
