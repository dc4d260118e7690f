/- The law 'ProbeAll' answers true at every input, and leaves its arguments as they were. (The frame was written by the guide's proof-skeleton.mjs; no condition beside the statement's own.) -/
import Derived.Test.YthbllkcikikodaaRows
import Derived.WalkKit
import Derived.ProofKit
import Derived.OpenShut
import Derived.Test.YthbllkcikikodaaLives
import Derived.Test.YthbllkcikikodaaInj
namespace Go.Proofs.Ythbllkcikikodaa.probeAll
open Go.ChangeShapes Go.WideShapes Go.ChangeAt Go.RowKit
set_option linter.unusedVariables false      -- a walk need not use every 'w<i>' (that an integer argument fits its kind)

theorem own : ownKnob Try.prog.godebug = none := by kernel_rfl

/-! ### STEP 1: THE WALK: the Go text returns true. the world has at most new blocks. Part the cases AHEAD of 'go_enter' where a test parts the walk; take each callee by a contract of your own. -/
theorem walk (a0 : Int) (a1 : Int) (w0 : (Lit.int .u64 a0).wf = true) (w1 : (Lit.int .u64 a1).wf = true) (w : World) :
    Calls Try.prog 6 #[.int .u64 a0, .int .u64 a1] w fun e w' => e = .returned (.bool true) ∧ Below w.heap.size w w' := by
  have b0 := bounds_u64 w0
  have b1 := bounds_u64 w1
  have h00 : 0 ≤ a0 := b0.1
  have H0 := Lib.hid b0.1
  have H1 : Hid (a0 < 18446744073709551616) := by show _ < _; omega
  have hk0 : 0 ≤ a1 := b1.1
  obtain ⟨m, hm, hg, hm1, hm2⟩ := shl_good hk0
  obtain ⟨i0, hi, hz0, hz1, hz2⟩ := info_parts Try.info3
  have HM := Lib.hid hm
  have HG := Lib.hid hg
  have HL : Hid (gatherL a0 (m : Int) (-1) = seqN a0.toNat m m) := by show _ = _; unfold gatherL; rw [if_neg (by omega), seqL_good hg]; simp
  clear b0 b1 w0 w1 hm hg
  go_enter Try.func6, Try.ntmps6
  go_wp2_with (at_make; refine wpList_make_full _ rfl _ _ 23 rfl w.heap.size 3 i0 (.int .i64 0) 1 Try.underlying23 hi hz0 hz1 .i64 .i64 _ _ m rfl rfl HM.out HM.out (by rw [hz2]; omega) (by simp only [maxLen]; omega) (Nat.le_refl _) ?_; intro w1 hown1 hgr1)
  rw [HM.out]
  obtain ⟨s, hs⟩ : ∃ s, s = w.heap.size := ⟨_, rfl⟩
  have HS := Lib.hid hs
  rw [← hs] at hown1 ⊢
  clear hs
  have hblk := own_block hown1
  have hB1 : Below s w w1 := by rw [HS.out]; exact (Below.refl _ w).grown hgr1 (Nat.le_refl _) (fun k e => by cases e)
  clear hown1 hgr1
  go_wp2_with fail
  refine (gather_any _ _ _ H0.out H1.out _).mono ?_
  rintro e w2 ⟨v, rfl, hown, hB2⟩
  rw [HL.out] at hown
  obtain ⟨A, c, rfl, hlen, hR, hlt⟩ := own_reads hown
  have hbase := own_base hown
  clear hown
  rw [seqN_length] at hlen
  obtain ⟨gA, rfl, hR0⟩ := hR 0 (by rw [seqN_length]; omega)
  have HRj : Hid (∀ j, j < m → w2.cell? ⟨gA, j, none⟩ = some (.int .i64 (el a0.toNat m j : Nat))) := by
    intro j hj
    obtain ⟨g', e', hc⟩ := hR j (by rw [seqN_length]; exact hj)
    cases e'
    rw [hc]; simp [seqN, List.getD_eq_getElem?_getD, hj]
  have hgA : s < gA := by have := hbase gA rfl; have h2 := (Array.getElem?_eq_some_iff.1 hblk).1; omega
  have HBk : Hid (Block w2 s (List.replicate m 0)) := by
    refine Block.below ?_ hB2
    show w1.heap[s]? = _
    rw [hblk, show (Value.int .i64 0).cells = #[Value.int .i64 0] from rfl, Nat.mul_one]
    congr 2
    apply Array.ext'
    rw [toList_madeCells_one]; simp
  have HlA : Hid (gA < w2.heap.size) := hlt gA rfl
  have hc0 := HRj.out 0 (by omega)
  have hB : Below s w w2 := hB1.trans (hB2.mono (by rw [HS.out]; exact hB1.size))
  clear hR hR0 hbase hlen hblk hlt hB1 hB2
  have hl1 : ((m : Int) == (m : Int)) = true := by simp
  have hl2 : ((m : Int) != (m : Int)) = false := by simp
  have hl3 : a0.tmod (m : Int) = ((el a0.toNat m 0 : Nat) : Int) := el_zero h00
  have hl4 : wrap64 ((el a0.toNat m 0 : Nat) : Int) = ((el a0.toNat m 0 : Nat) : Int) := by have := el_lt a0.toNat m 0 (by omega); exact IntWalk.wrap64_in _ (by omega)
  rw [seqN_length]
  go_wp2
  go_quiet (fail)
  clear hl1 hl2 hl3 hl4 hc0
  go_wp2
  go_loopw [35, 8, 9] (fun t _ _ wr => ∃ k : Nat, k ≤ m ∧ t = .int .i64 k ∧ Hid (∀ j, j < m → wr.cell? ⟨gA, j, none⟩ = some (.int .i64 (el a0.toNat m j : Nat))) ∧
    Hid (gA < wr.heap.size) ∧ (∃ ys : List Int, ys.length = m ∧ Hid (Block wr s ys) ∧ Hid (∀ g, g < m → (∀ i, i < k → el a0.toNat m i ≠ g) → ys.getD g 0 = 0)) ∧ Below s w wr) (fun t _ _ _ => m - (intOf t).toNat)
  case atStart => exact ⟨0, Nat.zero_le _, rfl, HRj.out, HlA.out, ⟨_, by simp, HBk.out, (by intro g hg _; simp [List.getD_eq_getElem?_getD, hg])⟩, hB.trans ⟨rfl, rfl, rfl, Nat.le_refl _, fun _ _ => rfl⟩⟩
  case round =>
    clear HRj HlA HBk hB
    obtain ⟨k, hk, rfl, HR, HlA, ⟨ys, hys, HBk, HZ⟩, hB⟩ := hrel
    by_cases hlt : k < m
    · have hd : decide (k < m) = true := decide_eq_true hlt
      have hc0 := HR.out k hlt
      have he := el_lt a0.toNat m k (by omega)
      have HE := Lib.hid (refAt_el (h := a0) (i := k) HG.out (by omega))
      have hz : ys.getD (el a0.toNat m k) 0 = 0 := HZ.out _ he (fun i hi => el_inj_good HG.out hi hlt)
      have hcS := HBk.out.cell (el a0.toNat m k) (by rw [hys]; exact he)
      rw [hz] at hcS
      have hinj : Hid (∀ j, j < m → j ≠ k → el a0.toNat m j ≠ el a0.toNat m k) := by
        intro j hj hjk
        rcases Nat.lt_or_ge j k with h2 | h2
        · exact el_inj_good HG.out h2 hlt
        · exact (el_inj_good HG.out (show k < j by omega) hj).symm
      clear hz
      generalize hge : el a0.toNat m k = e at *
      have HGE := Lib.hid hge
      clear hge
      have HE' : Hid (refAt a0 (k : Int) (m : Int) = (e : Int)) := by rw [← HGE.out]; exact HE.out
      clear HE
      have hd2 : decide (m ≤ e) = false := decide_eq_false (by omega)
      go_wp2_with fail
      refine (at_any _ _ _ H0.out H1.out _).mono ?_
      rintro ee w3 ⟨rfl, hB3⟩
      rw [HE'.out]
      have hcS3 := (hB3.cell (p := ⟨s, e, none⟩) HBk.out.lt).trans hcS
      have hfS3 := (HBk.out.below hB3).frozen e
      clear hcS
      go_wp2
      refine ⟨⟨k + 1, hlt, by simp, ?_, ?_, ⟨ys.set e 1, by simp [hys], (HBk.out.below hB3).set e 1, ?_⟩, ?_⟩, by simp [intOf]; omega⟩
      · intro j hj
        rw [World.cell?_setCell_other _ _ _ _ (by intro h; cases h; omega)]
        exact (hB3.cell (p := ⟨gA, j, none⟩) HlA.out).trans (HR.out j hj)
      · have := HlA.out; have := hB3.size; show gA < _; simp [World.setCell]; omega
      · intro g hg hne
        have hge := hne k (by omega)
        rw [HGE.out] at hge
        have := HZ.out g hg (fun i hi => hne i (by omega))
        simpa [List.getD_eq_getElem?_getD, List.getElem?_set, hge] using this
      · exact (hB.trans (hB3.mono (Nat.le_trans (Nat.le_of_lt hgA) (Nat.le_of_lt HlA.out)))).setCell (p := ⟨s, e, none⟩) (Nat.le_refl _) _
    · have hd : decide (k < m) = false := decide_eq_false hlt
      go_wp2_with fail
      refine (lives_any _).mono ?_
      rintro e w3 ⟨rfl, hB3⟩
      go_wp2
      go_ret
      rw [← HS.out]
      exact ⟨rfl, hB.trans (hB3.mono (by rw [HS.out]; exact hB.size))⟩

/-! ### THE ROW's STEP: WRITTEN OUT: LEAVE IT -/
set_option maxRecDepth 100000 in
theorem lifted (os : Os) (started : os.Started) (H : Type) (enc : TypeId × Value → H) :
    ReturnsInHanded {} Try.checked os 6 .any (Rows.probeAllSpec.pre6 enc Try.prog Try.f6 Rows.probeAllRow.domain false) (Rows.probeAllSpec.post enc Try.prog Try.f6 false true false false) := by
  refine returnsInHanded_of_change (C := Try.checked) own started (by kernel_rfl) Try.func6
    (ChangeSpec.witness6 (enc := enc) (C := Try.checked) false ⟨#[], #[.int .u64 0, .int .u64 0], []⟩ 8 (by kernel_rfl) (by kernel_rfl) (by kernel_rfl) (by kernel_rfl)) ?_
  intro W base args ds gs before hval0 hW hcnd _
  have hval : ∀ (j : Nat) t v, Try.f6.params[j]? = some t → args[j]? = some v → Value.okWide Try.prog W .any base t v := hval0
  have hW' := hW
  obtain ⟨p, q, hA0, hV, rfl, hfz, hnd⟩ := hW
  have hA : DataW.TrodAll enc Try.prog W 0 (fun _ => true) true Try.f6.params.toList args.toList ds p := hA0
  rw [Try.params6] at hA hval
  obtain ⟨v0, vs0, d0, ds0, p0, q0, hargs, rfl, rfl, h0, r0⟩ := trodAll_cons hA
  obtain ⟨v1, vs1, d1, ds1, p1, q1, rfl, rfl, rfl, h1, r1⟩ := trodAll_cons r0
  obtain ⟨rfl, rfl, rfl⟩ := trodAll_nil r1
  obtain rfl : args = #[v0, v1] := by cases args; simp_all
  obtain ⟨rfl, rfl⟩ := trodVars_none hV
  obtain ⟨a0, rfl, rfl, rfl, w0⟩ := open_int Try.underlying22 (hval 0 22 v0 rfl rfl) h0
  obtain ⟨a1, rfl, rfl, rfl, w1⟩ := open_int Try.underlying32 (hval 1 32 v1 rfl rfl) h1
  clear hA0 hval0
  simp only [List.append_nil] at hW'
  refine (walk a0 a1 w0 w1 W).mono fun e W' ⟨he, hg⟩ => ?_
  subst he
  exact ⟨_, rfl, _, _, _, [], _, [], hW', (trodAll_cons_mk (shut_bool Try.underlying4 _) trodAll_mk0), (trodAll_cons_mk (shut_int Try.underlying22 w0) (trodAll_cons_mk (shut_int Try.underlying32 w1) trodAll_mk0)), rfl, hg.frame _, fun h => by cases h⟩

theorem over : Rows.probeAllRow.holds Try.pinned (OpenSpec.ofChange Rows.probeAllSpec) :=
  OpenClaim.holds_of_wide 6 Try.f6 rfl rfl rfl rfl rfl rfl rfl ⟨rfl, rfl, rfl, rfl, rfl⟩ rfl rfl rfl rfl rfl (by kernel_rfl) Try.func6 (by kernel_rfl)
    (of_decide_eq_true (by kernel_rfl)) (by unfold Func.isWrapper; first | (rw [if_pos (by decide +kernel)]; kernel_rfl) | (rw [if_neg (by decide +kernel)]; exact ⟨rfl, rfl⟩))
    (fun os started H enc _ => lifted os started H enc)

/-- ████ THE STATEMENT ████ -/
theorem proved : Rows.ProbeAllSaid :=
  over
#print axioms proved
end Go.Proofs.Ythbllkcikikodaa.probeAll
