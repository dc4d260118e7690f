/- A leader's entries: Match. -/
import Derived.Test.YtbgfpmnicpmieaaELog
namespace Go.Proofs.Ytbgfpmnicpmieaa
open Go Go.RowKit Go.Shelf Go.Sort
set_option linter.unusedVariables false
set_option linter.unusedSimpArgs false
set_option maxRecDepth 100000
set_option maxHeartbeats 1000000
def matOk (l : Lg) (es : List Ent) (index term : Int) (ys : List Ent) : Bool := (termF l (pts es) index).2 == 0 && ((termF l (pts es) index).1 == term && chainB index term ys)
def matK (l : Lg) (es ys : List Ent) : Nat := firstO l (pts es) ys
def matL (l : Lg) (index : Int) (k n : Nat) (a : Option Addr) (c : Nat) : Lg := { l with a := a, n := (index + k - l.ix).toNat + (n - k), c := c, sur := min l.sur (index + k) }
def matE (l : Lg) (es : List Ent) (index : Int) (k : Nat) (ys : List Ent) : List Ent := es.take (index + k - l.ix).toNat ++ ys.drop k
def MatchP (w : World) (m b : Nat) (l : Lg) (es : List Ent) (index term : Int) (n : Nat) (ys : List Ent) (e : Ending) (w' : World) : Prop :=
  (matOk l es index term ys = false ∧ e = .returned (.tuple #[.int .i64 0, .bool false]) ∧ LG w' m b l es ∧ Below w.heap.size w w') ∨
  (matOk l es index term ys = true ∧ n ≤ matK l es ys ∧ e = .returned (.tuple #[.int .i64 (index + n), .bool true]) ∧ LG w' m b l es ∧ Below w.heap.size w w') ∨
  (matOk l es index term ys = true ∧ matK l es ys < n ∧ index + matK l es ys + 1 ≤ l.com ∧ e = .returned (.tuple #[.int .i64 0, .bool false]) ∧ LG w' m b l es ∧ Below w.heap.size w w') ∨
  (matOk l es index term ys = true ∧ matK l es ys < n ∧ l.com < index + matK l es ys + 1 ∧ e = .returned (.tuple #[.int .i64 (index + n), .bool true]) ∧ ∃ a c, LG w' m b (matL l index (matK l es ys) n a c) (matE l es index (matK l es ys) ys) ∧ (∀ j, gOf (matL l index (matK l es ys) n a c) = some j → w.heap.size ≤ j) ∧ Kept (· = b) w w')
theorem term_in {l : Lg} {ps : List (Int × Int)} {i : Int} (h : (termF l ps i).2 = 0) : l.ix ≤ i ∧ i ≤ l.ix + l.n := by
  unfold termF at h
  split at h
  · cases h
  · split at h
    · cases h
    · omega
/-- The entries ahead of the first other one stand in the log. -/
theorem mat_in {l : Lg} {es ys : List Ent} {index term : Int} (ht : (termF l (pts es) index).2 = 0) (hc : chainB index term ys = true) : index + matK l es ys ≤ l.ix + l.n := by
  have h0 := term_in ht
  rcases Nat.eq_zero_or_pos (matK l es ys) with h | h
  · rw [h]; simpa using h0.2
  · have h1 := firstO_le l (pts es) ys
    have h2 := firstO_same l (pts es) ys (matK l es ys - 1) (by unfold matK at *; omega)
    have h3 := chain_row hc (matK l es ys - 1) (by unfold matK at *; omega)
    rw [h3] at h2
    simp only [othB, Bool.or_eq_false_iff, bne_eq_false_iff_eq] at h2
    have h4 := (term_in h2.1).2
    omega
theorem match_any (m b : Nat) (l : Lg) (es : List Ent) (a : Option Addr) (n c : Nat) (ys : List Ent) (index term : Int) (w : World)
    (hg : LG w m b l es) (ho : Ok l (pts es)) (hy : ER w a n ys) (hk : EKs w ys) (hn : n ≤ 1000) (hnc : n ≤ c) :
    Calls Try.prog 12 #[.pointer (some ⟨b, 0, none⟩), .int .i64 index, .int .i64 term, .slice a n c] w (MatchP w m b l es index term n ys) := by
  have L0 : Hid (Below w.heap.size w (w.alloc (.cells #[.pointer (some ⟨b, 0, none⟩)] 27))) := (Below.refl _ w).alloc (Nat.le_refl _) _
  have hbl := hg.lb.lt
  have hlo := ho.lo
  have hhi := ho.hi
  have hsm := ho.small
  have G0 := Lib.hid (hg.below (Nat.le_refl _) L0.out)
  have Y0 := Lib.hid (hy.keep (Nat.le_refl _) L0.out)
  have K0 := Lib.hid (hk.keep (Nat.le_refl _) L0.out)
  have HO := Lib.hid ho
  have HOK : Hid (matOk l es index term ys = ((termF l (pts es) index).2 == 0 && ((termF l (pts es) index).1 == term && chainB index term ys))) := rfl
  have HIN : Hid ((termF l (pts es) index).2 = 0 → chainB index term ys = true → index + matK l es ys ≤ l.ix + l.n) := mat_in
  have HT0 : Hid ((termF l (pts es) index).2 = 0 → l.ix ≤ index) := fun h => (term_in h).1
  have HYL := Lib.hid hy.1
  clear hg ho hy hk
  go_enter Try.func12, Try.ntmps12
  go_wp2_with fail
  refine (term_any b l (pts es) index _ G0.out.lb G0.out.ep HO.out).mono ?_
  rintro e w1 ⟨rfl, hbw⟩
  have z1 := (hbw.cell (p := ⟨w.heap.size, 0, none⟩) (by simp)).trans (show _ = some (Value.pointer (some ⟨b, 0, none⟩)) by simp)
  have L1 := Lib.hid (L0.out.trans (hbw.mono L0.out.size))
  have G1 := Lib.hid (G0.out.below (Nat.le_refl _) hbw)
  have Y1 := Lib.hid (Y0.out.keep (Nat.le_refl _) hbw)
  have K1 := Lib.hid (K0.out.keep (Nat.le_refl _) hbw)
  clear hbw G0 Y0 K0
  generalize termF l (pts es) index = q at *
  obtain ⟨q1, q2⟩ := q
  dsimp only at HOK HIN HT0 ⊢
  by_cases c1 : q2 = 0
  rotate_left
  · have d1 : (q2 != 0) = true := by simpa using c1
    have HF : Hid (matOk l es index term ys = false) := by show _ = _; rw [HOK.out]; simp [c1]
    clear c1
    go_wp2_with fail
    go_ret2
    exact .inl ⟨HF.out, rfl, G1.out, L1.out⟩
  subst c1
  by_cases c2 : q1 = term
  rotate_left
  · have d1 : (q1 != term) = true := by simpa using c2
    have HF : Hid (matOk l es index term ys = false) := by show _ = _; rw [HOK.out]; simp [c2]
    clear c2
    go_wp2_with fail
    go_ret2
    exact .inl ⟨HF.out, rfl, G1.out, L1.out⟩
  subst c2
  have e1 : (q1 != q1) = false := by simp
  have hil : l.ix ≤ index := HT0.out (by trivial)
  have HOK2 : Hid (matOk l es index q1 ys = chainB index q1 ys) := by show _ = _; rw [HOK.out]; simp
  clear HOK HT0
  go_wp2_with fail
  refine (chain_any index q1 a n c ys _ Y1.out K1.out (by omega)).mono ?_
  rintro e w2 ⟨rfl, hbw⟩
  have z2 := (hbw.cell (cell_block_lt z1)).trans z1
  have L2 := Lib.hid (L1.out.trans (hbw.mono L1.out.size))
  have G2 := Lib.hid (G1.out.below (Nat.le_refl _) hbw)
  have Y2 := Lib.hid (Y1.out.keep (Nat.le_refl _) hbw)
  clear hbw G1 Y1 K1 z1
  rw [← HOK2.out]
  cases hc : matOk l es index q1 ys
  · have HF := Lib.hid hc
    clear hc
    go_wp2_with fail
    go_ret2
    exact .inl ⟨HF.out, rfl, G2.out, L2.out⟩
  have HF := Lib.hid hc
  have hin := HIN.out (by trivial) (HOK2.out ▸ hc)
  have HCH : Hid (chainB index q1 ys = true) := HOK2.out ▸ hc
  clear hc HIN HOK2 e1
  go_wp2_with fail
  refine (idx_any w.heap.size b l (pts es) a n c ys _ z2 G2.out.lb G2.out.ep HO.out Y2.out (by omega)).mono ?_
  rintro e w3 ⟨rfl, hbw⟩
  have z3 := (hbw.cell (cell_block_lt z2)).trans z2
  have L3 := Lib.hid (L2.out.trans (hbw.mono L2.out.size))
  have G3 := Lib.hid (G2.out.below (Nat.le_refl _) hbw)
  have Y3 := Lib.hid (Y2.out.keep (Nat.le_refl _) hbw)
  clear hbw G2 Y2 z2
  have HK : Hid (matK l es ys = firstO l (pts es) ys) := rfl
  rw [← HK.out]
  obtain ⟨k, hk⟩ : ∃ k, k = matK l es ys := ⟨_, rfl⟩
  rw [← hk] at hin ⊢
  have HKK := Lib.hid hk
  clear hk
  have hi64 : index ≤ 2199023257552 := by omega
  have hw2 : IntKind.i64.wrap (index + (n : Int)) = index + n := IntWalk.i64_in _ (by omega)
  by_cases hkn : k < n
  rotate_left
  · have hidx : idxI k n = -1 := by rw [idxI, if_neg hkn]
    rw [hidx]
    clear hidx
    go_wp2_with fail
    go_ret2
    exact .inr (.inl ⟨HF.out, by rw [← HKK.out]; omega, rfl, G3.out, L3.out⟩)
  have hidx : idxI k n = k := by rw [idxI, if_pos hkn]
  rw [hidx]
  clear hidx
  obtain ⟨yb, yo, rfl, hrow⟩ := Y3.out.row hkn
  have q0 := hrow 0 (by omega)
  have hi0 : (ys.getD k default).i = index + 1 + k := chain_row HCH.out k (by have := HYL.out; omega)
  simp only [List.getD_cons_zero] at q0
  rw [hi0] at q0
  clear hrow hi0
  rw [Nat.add_zero] at q0
  have c3 := G3.out.lb.c3
  by_cases c4 : index + 1 + k ≤ l.com
  · have d4 : decide (index + 1 + (k : Int) ≤ l.com) = true := decide_eq_true c4
    clear hw2
    go_wp2_with fail
    go_ret2
    exact .inr (.inr (.inl ⟨HF.out, by rw [← HKK.out]; exact hkn, by rw [← HKK.out]; omega, rfl, G3.out, L3.out⟩))
  have d4 : decide (index + 1 + (k : Int) ≤ l.com) = false := decide_eq_false c4
  obtain ⟨i, hi⟩ : ∃ i, i = index + 1 + (k : Int) := ⟨_, rfl⟩
  rw [← hi] at q0 d4
  have hi1 : i - 1 = index + k := by omega
  have HI1 := Lib.hid hi1
  have hi2 : 0 ≤ i - 1 ∧ i ≤ 2199023258552 := by omega
  clear hw2
  have HAT : Hid (atN (pts es) i = (index + k - l.ix).toNat ∧ (index + k - l.ix).toNat ≤ l.n) := by
    refine ⟨?_, by omega⟩
    rw [HO.out.at]; omega
  clear hi hi1
  go_wp2_with fail
  refine (at_any b l (pts es) i _ G3.out.lb G3.out.ep HO.out.small HO.out.up).mono ?_
  rintro e w4 ⟨rfl, hbw⟩
  rw [HAT.out.1]
  have z4 := (hbw.cell (cell_block_lt z3)).trans z3
  have L4 := Lib.hid (L3.out.trans (hbw.mono L3.out.size))
  have G4 := Lib.hid (G3.out.below (Nat.le_refl _) hbw)
  have Y4 := Lib.hid (Y3.out.keep (Nat.le_refl _) hbw)
  clear hbw G3 Y3 z3 q0 c3 d4
  obtain ⟨j, hj⟩ : ∃ j, j = (index + k - l.ix).toNat := ⟨_, rfl⟩
  rw [← hj]
  have hjn : j ≤ l.n := by have := HAT.out.2; omega
  have HJ := Lib.hid hj
  clear HAT hj
  have X5 := (G4.out.er.take hjn).keep (Nat.le_refl _) ((Below.refl w4.heap.size w4).drew)
  have Y5 := (Y4.out.drop (Nat.le_of_lt hkn)).keep (Nat.le_refl _) ((Below.refl w4.heap.size w4).drew)
  obtain ⟨c', w5, hr5, hR5, hb5⟩ := run_cutE 22 l.a j (es.take j) w4.drew X5 ⟨yb, yo + k * 13, none⟩ (n - k) (c - k) (ys.drop k) Y5 (by omega) (by omega)
  have HR5 := Lib.hid hr5
  have HRR := Lib.hid hR5
  have HB5 := Lib.hid hb5
  have hcap := G4.out.cap
  have hkc : k ≤ c := by omega
  have hkc2 : ¬ c = k := by omega
  have hjc : j ≤ l.c := by omega
  have hk0 : k ≤ n := by omega
  have c2 := G4.out.lb.c2
  have fz := G4.out.lb.frozen 2
  have hsl : l.a = none ∨ l.c = 0 ∨ ¬ l.c = 0 := by omega
  have HSL := Lib.hid hsl
  have HSA : Hid (∀ p, l.a = some p → True) := fun _ _ => trivial
  clear hr5 hR5 hb5 X5 Y5 hsl
  go_upto_region 11 with fail
  go_cut [67] (fun v wx => v = .slice (some ⟨w4.drew.heap.size, 0, none⟩) (j + (n - k)) c' ∧ wx = w5.setCell ⟨b, 2, none⟩ (.slice (some ⟨w4.drew.heap.size, 0, none⟩) (j + (n - k)) c'))
  case first =>
    have z5 := (HB5.out.cell (cell_block_lt z4)).trans z4
    have B5 := G4.out.lb.below (Nat.le_refl _) ((Below.refl w4.heap.size w4).drew.trans HB5.out)
    have c5 := B5.c2
    have fz5 := B5.frozen 2
    clear B5
    go_region_law (refine step_run rfl _ _ rfl (.slice l.a j j) (.slice (some ⟨yb, yo + k * 13, none⟩) (n - k) (c - k)) rfl rfl _ _ HR5.out ?_)
    all_goals (go_wp2_with fail; go_meet; exact ⟨rfl, rfl⟩)
  case rest =>
    obtain ⟨rfl, rfl⟩ := hcut
    have hne : w4.drew.heap.size ≠ b := by have := L4.out.size; show w4.heap.size ≠ b; omega
    have hwn : w.heap.size ≤ w4.drew.heap.size := L4.out.size
    have z5 := (HB5.out.cell (cell_block_lt z4)).trans z4
    have B5 := Lib.hid (G4.out.lb.below (Nat.le_refl _) ((Below.refl w4.heap.size w4).drew.trans HB5.out))
    have HMB := Lib.hid G4.out.mb
    have z6 : (w5.setCell ⟨b, 2, none⟩ (.slice (some ⟨w4.drew.heap.size, 0, none⟩) (j + (n - k)) c')).cell? ⟨w.heap.size, 0, none⟩ = some (.pointer (some ⟨b, 0, none⟩)) := by
      rw [World.cell?_setCell_other _ _ _ _ (by intro h; cases h <;> omega)]; exact z5
    have B6 := Lib.hid (B5.out.s2 (some ⟨w4.drew.heap.size, 0, none⟩) (j + (n - k)) c')
    have R6 := Lib.hid (own_set HRR.out ⟨b, 2, none⟩ (.slice (some ⟨w4.drew.heap.size, 0, none⟩) (j + (n - k)) c') (fun h => hne (by injection h)))
    have L5 : Below w.heap.size w w5 := L4.out.drew.trans (HB5.out.mono L4.out.size)
    have L6 : Hid (Kept (· = b) w (w5.setCell ⟨b, 2, none⟩ (.slice (some ⟨w4.drew.heap.size, 0, none⟩) (j + (n - k)) c'))) := (Kept.of (S := (· = b)) L5 (Nat.le_refl _)).setCell (p := ⟨b, 2, none⟩) rfl _
    clear z4 z5 c2 fz L5 HR5 HRR HB5 B5 G4 Y4 L4 L1 L2 L3
    generalize w5.setCell ⟨b, 2, none⟩ (.slice (some ⟨w4.drew.heap.size, 0, none⟩) (j + (n - k)) c') = w6 at *
    generalize w4.drew.heap.size = nb at *
    have c5 := B6.out.c5
    have fz5 := B6.out.frozen 5
    have hw0 : wrap64 i = i := IntWalk.wrap64_in _ ⟨by omega, by omega⟩
    have hw1 : IntKind.i64.wrap (i - 1) = index + k := by rw [IntWalk.i64_in _ (by omega)]; exact HI1.out
    have hw2 : IntKind.i64.wrap (index + (n : Int)) = index + n := IntWalk.i64_in _ (by omega)
    dsimp only at c5
    go_upto_region 12 with fail
    go_cut [78] (fun v wx => wx = (w6.setCell ⟨b, 5, none⟩ (.int .i64 (min l.sur (index + k)))).drew)
    case first =>
      go_region
      all_goals (go_wp2_with fail; go_meet; rfl)
    case rest =>
      subst hcut
      have hne2 : nb ≠ b := hne
      have O7 : Hid ((w6.setCell ⟨b, 5, none⟩ (.int .i64 (min l.sur (index + k)))).drew.ownsRow m 37 13 (.slice (some ⟨nb, 0, none⟩) (j + (n - k)) c') (j + (n - k)) (flatE (es.take j ++ ys.drop k))) :=
        own_raise (own_set R6.out ⟨b, 5, none⟩ (.int .i64 (min l.sur (index + k))) (fun h => hne2 (by injection h))) (fun g hg => by have h1 : some nb = some g := hg; injection h1 with h1; have := HMB.out; omega)
      go_wp2_with fail
      go_ret2
      refine .inr (.inr (.inr ⟨HF.out, by rw [← HKK.out]; exact hkn, by rw [← HKK.out]; omega, rfl, some ⟨nb, 0, none⟩, c', ?_⟩))
      rw [← HKK.out]
      have e1 : matL l index k n (some ⟨nb, 0, none⟩) c' = { l with a := some ⟨nb, 0, none⟩, n := j + (n - k), c := c', sur := min l.sur (index + k) } := by rw [matL, ← HJ.out]
      have e2 : matE l es index k ys = es.take j ++ ys.drop k := by rw [matE, ← HJ.out]
      rw [e1, e2]
      exact ⟨⟨B6.out.s5 (min l.sur (index + k)), O7.out, HMB.out⟩, fun g hg => by (have h1 : some nb = some g := hg; injection h1 with h1; omega), (L6.out.setCell (p := ⟨b, 5, none⟩) rfl _).drew⟩
end Go.Proofs.Ytbgfpmnicpmieaa
