/- Where a leader goes on. -/
import Derived.Test.YtbgfpmnicpmieaaENew
import Derived.Test.YtbgfpmnicpmieaaRQuiet
namespace Go.Proofs.Ytbgfpmnicpmieaa
open Go Go.RowKit Go.Shelf Go.Sort
set_option linter.unusedVariables false
set_option linter.unusedSimpArgs false
set_option maxRecDepth 100000
set_option maxHeartbeats 1000000
def hintN (ps : List (Int × Int)) (term : Int) : Nat → Nat
  | 0 => 0
  | j + 1 => if term < (ps.getD j (0, 0)).2 then hintN ps term j else j + 1
def hint0 (l : Lg) (index : Int) : Nat := (max (min index (l.ix + l.n)) l.ix - l.ix).toNat
theorem at_class (w0 : World) (b : Nat) (l : Lg) (ps : List (Int × Int)) (i : Int) (k : Nat) (hb : LB w0 b l) (he : EP w0 l.a l.n ps) (hn : l.n ≤ 1000) (hu : upP ps) (hk : atN ps i = k) :
    ∀ W, Below w0.heap.size w0 W → Calls Try.prog 40 #[.pointer (some ⟨b, 0, none⟩), .int .i64 i] W fun e w' => e = .returned (.int .i64 (k : Nat)) ∧ Below w0.heap.size w0 w' :=
  fun W h => by
    have := at_from w0 b l ps i W hb he hn hu h
    rwa [hk] at this
theorem hint_any (b : Nat) (l : Lg) (ps : List (Int × Int)) (index term : Int) (w : World) (hb : LB w b l) (he : EP w l.a l.n ps) (ho : Ok l ps) :
    Calls Try.prog 14 #[.pointer (some ⟨b, 0, none⟩), .int .i64 index, .int .i64 term] w fun e w' => e = .returned (.int .i64 (l.ix + (hintN ps term (hint0 l index) : Nat))) ∧ Below w.heap.size w w' := by
  have HM := Lib.hid (made_any b l w hb)
  have HL := Lib.hid (last_any b l ps w hb ho.is he ho.small)
  have HB := Lib.hid hb
  have HE := Lib.hid he
  have HO := Lib.hid ho
  have HLa := Lib.hid ho.last
  have HI := Lib.hid ho.is
  have hsm := ho.small
  have hlo := ho.lo
  have hhi := ho.hi
  have hj0 : Hid (hint0 l index ≤ l.n ∧ max (min index (l.ix + (l.n : Int))) l.ix = l.ix + (hint0 l index : Nat)) := by
    show _ ∧ _
    unfold hint0; omega
  generalize hint0 l index = j0 at *
  obtain ⟨R, hR⟩ : ∃ R, R = hintN ps term j0 := ⟨_, rfl⟩
  rw [← hR]
  have HR := Lib.hid hR
  clear hb he ho hR
  go_enter Try.func14, Try.ntmps14
  go_wp2_with fail
  refine HM.out.mono ?_
  rintro e w' ⟨rfl, rfl⟩
  rw [HI.out]
  go_wp2_with fail
  refine HL.out.mono ?_
  rintro e w1 ⟨rfl, hbw⟩
  rw [HLa.out]
  have L1 := Lib.hid hbw
  have B1 := Lib.hid (HB.out.below (Nat.le_refl _) hbw)
  have E1 := Lib.hid (HE.out.keep (Nat.le_refl _) hbw)
  have h0 := B1.out.c0
  clear hbw HM HL HLa
  generalize (lastP l ps).2 = lt at *
  go_wp2_with fail
  rw [hj0.out.2]
  clear h0
  go_loopw [9] (fun v wr => ∃ j : Nat, j ≤ l.n ∧ v = .int .i64 (l.ix + j) ∧ R = hintN ps term j ∧ Below w.heap.size w wr) (fun v _ => (intOf v - l.ix).toNat)
  case atStart => exact ⟨j0, hj0.out.1, rfl, HR.out, L1.out⟩
  case round =>
    obtain ⟨j, hjl, rfl, hE, hB⟩ := hrel
    have HRj := Lib.hid hE
    have L2 := Lib.hid hB
    have B2 := Lib.hid (HB.out.below (Nat.le_refl _) hB)
    have E2 := Lib.hid (HE.out.keep (Nat.le_refl _) hB)
    clear hE hB
    have h0 := B2.out.c0
    have h2 := B2.out.c2
    have HL0 : Hid (∀ W, Below wr.heap.size wr W → W.cell? ⟨b, 0, none⟩ = some (.int .i64 l.ix)) := by show ∀ W, _; intro W h; exact (h.cell (cell_block_lt h0)).trans h0
    have HCB : Hid (∀ W, Below wr.heap.size wr W → Below wr.heap.size wr W) := by show ∀ W, _; exact fun _ h => h
    rcases Nat.eq_zero_or_pos j with rfl | hpos
    · have d1 : decide (l.ix < l.ix + ((0 : Nat) : Int)) = false := decide_eq_false (by omega)
      have HR0 : Hid (R = 0) := by show _ = _; rw [HRj.out]; rfl
      clear h0 h2
      go_upto_region 5 with fail
      obtain ⟨C, HC0, HCC, HL0', hcl⟩ : ∃ C : World → Prop, Hid (C wr.drew) ∧ Hid (∀ W, C W → Below wr.heap.size wr W) ∧ Hid (∀ W, C W → W.cell? ⟨b, 0, none⟩ = some (.int .i64 l.ix)) ∧ (∀ q : Prop, (∀ W, C W → q) ↔ q) :=
        ⟨fun W => Below wr.heap.size wr W, (Below.refl _ _).drew, fun _ h => h, HL0.out, fun q => ⟨fun h => h _ (Below.refl _ _), fun h _ _ => h⟩⟩
      clear HL0 HCB
      refine wp_region_class C (by kernel_rfl) (by kernel_rfl) HC0.out ?_
      repeat (first
        | go_big_quiet_skip
        | (go_big_quiet_want
           first
           | (refine quiet_load 3 _ ⟨b, 0, none⟩ (.int .i64 l.ix) rfl rfl HL0'.out ?_; try simp only [Act.put, List.setIfInBounds_toArray, List.set_cons_zero, List.set_cons_succ]; go_big_quiet_on)
           | (go_big_quiet_op
              go_big_quiet_on)))
      refine wpQuiet_nil ?_
      intro wz hz
      have HZ := Lib.hid (L2.out.trans ((HCC.out wz hz).mono L2.out.size))
      clear hz HC0 HCC hcl HL0'
      go_wp2_with fail
      go_ret
      exact ⟨ret_int (by rw [HR0.out]), HZ.out⟩
    · obtain ⟨k, rfl⟩ : ∃ k, j = k + 1 := ⟨j - 1, by omega⟩
      have hkn : k < l.n := by omega
      obtain ⟨i, hi⟩ : ∃ i, i = l.ix + ((k + 1 : Nat) : Int) := ⟨_, rfl⟩
      rw [← hi]
      have d1 : decide (l.ix < i) = true := decide_eq_true (by omega)
      have HAT : atN ps i = k := by rw [HO.out.at]; omega
      have hi1 : i - 1 = l.ix + (k : Nat) := by omega
      have hi2 : l.ix < i := by omega
      have hi3 : i ≤ 2199023256553 := by omega
      have HI1 := Lib.hid hi1
      clear hi hi1
      have HCALL := Lib.hid (at_class wr b l ps i k B2.out E2.out hsm HO.out.up HAT)
      have HRk : Hid (R = if term < (ps.getD k (0, 0)).2 then hintN ps term k else k + 1) := by show _ = _; rw [HRj.out]; rfl
      obtain ⟨bb, off, ea, _, hdd⟩ := E2.out.at hkn
      rw [ea] at h2
      generalize (ps.getD k (0, 0)).2 = y at *
      have HL2 : Hid (∀ W, Below wr.heap.size wr W → W.cell? ⟨b, 2, none⟩ = some (.slice (some ⟨bb, off, none⟩) l.n l.c)) := by show ∀ W, _; intro W h; exact (h.cell (cell_block_lt h2)).trans h2
      have HL3 : Hid (∀ W, Below wr.heap.size wr W → W.cell? ⟨bb, off + k * 13 + 1, none⟩ = some (.int .i64 y)) := by show ∀ W, _; intro W h; exact (h.cell (cell_block_lt hdd)).trans hdd
      clear h0 h2 hdd HAT ea
      go_upto_region 5 with fail
      obtain ⟨C, HC0, HCC, HL0', HL2', HL3', HCALL', hcl⟩ : ∃ C : World → Prop, Hid (C wr.drew) ∧ Hid (∀ W, C W → Below wr.heap.size wr W) ∧ Hid (∀ W, C W → W.cell? ⟨b, 0, none⟩ = some (.int .i64 l.ix)) ∧ Hid (∀ W, C W → W.cell? ⟨b, 2, none⟩ = some (.slice (some ⟨bb, off, none⟩) l.n l.c)) ∧ Hid (∀ W, C W → W.cell? ⟨bb, off + k * 13 + 1, none⟩ = some (.int .i64 y)) ∧ Hid (∀ W, C W → Calls Try.prog 40 #[.pointer (some ⟨b, 0, none⟩), .int .i64 i] W fun e w' => e = .returned (.int .i64 (k : Nat)) ∧ C w') ∧ (∀ q : Prop, (∀ W, C W → q) ↔ q) :=
        ⟨fun W => Below wr.heap.size wr W, (Below.refl _ _).drew, fun _ h => h, HL0.out, HL2.out, HL3.out, HCALL.out, fun q => ⟨fun h => h _ (Below.refl _ _), fun h _ _ => h⟩⟩
      clear HL0 HCB HL2 HL3 HCALL
      refine wp_region_class C (by kernel_rfl) (by kernel_rfl) HC0.out ?_
      repeat (first
        | go_big_quiet_skip
        | (go_big_quiet_want
           first
           | (refine quiet_load 3 _ ⟨b, 0, none⟩ (.int .i64 l.ix) rfl rfl HL0'.out ?_; try simp only [Act.put, List.setIfInBounds_toArray, List.set_cons_zero, List.set_cons_succ]; go_big_quiet_on)
           | (refine quiet_load 22 _ ⟨b, 2, none⟩ (.slice (some ⟨bb, off, none⟩) l.n l.c) rfl rfl HL2'.out ?_; try simp only [Act.put, List.setIfInBounds_toArray, List.set_cons_zero, List.set_cons_succ]; go_big_quiet_on)
           | (refine quiet_load 3 _ ⟨bb, off + k * 13 + 1, none⟩ (.int .i64 y) rfl rfl HL3'.out ?_; try simp only [Act.put, List.setIfInBounds_toArray, List.set_cons_zero, List.set_cons_succ]; go_big_quiet_on)
           | (go_big_quiet_op
              first
              | go_big_quiet_on
              | (apply Exists.intro
                 refine ⟨?_, ?_⟩
                 · exact HCALL'.out
                 go_big_quiet_on))))
      refine wpQuiet_nil ?_
      intro wz hz
      have HZ := Lib.hid (L2.out.trans ((HCC.out wz hz).mono L2.out.size))
      clear hz HC0 HCC hcl HL0' HL2' HL3' HCALL'
      by_cases c : term < y
      · have d2 : decide (term < y) = true := decide_eq_true c
        have HRf : Hid (R = hintN ps term k) := by show _ = _; rw [HRk.out, if_pos c]
        go_wp2_with fail
        go_roundw
        case rel => exact ⟨k, by omega, by rw [HI1.out], HRf.out, HZ.out⟩
        case measure => simp [intOf]; omega
      · have d2 : decide (term < y) = false := decide_eq_false c
        have HRf : Hid (R = k + 1) := by show _ = _; rw [HRk.out, if_neg c]
        go_wp2_with fail
        go_ret
        exact ⟨ret_int (by rw [HRf.out]; have := HI1.out; omega), HZ.out⟩
end Go.Proofs.Ytbgfpmnicpmieaa
