/- Where entries that come in begin to differ. -/
import Derived.Test.YtbgfpmnicpmieaaELaw
import Derived.Test.YtbgfpmnicpmieaaRFirst
namespace Go.Proofs.Ytbgfpmnicpmieaa
open Go Go.RowKit Go.Shelf Go.Sort
set_option linter.unusedVariables false
set_option linter.unusedSimpArgs false
set_option maxRecDepth 100000
set_option maxHeartbeats 1000000
theorem closE_any (bx b : Nat) (l : Lg) (ps : List (Int × Int)) (x : Ent) (w : World) (hx : w.cell? ⟨bx, 0, none⟩ = some (.pointer (some ⟨b, 0, none⟩))) (hb : LB w b l) (he : EP w l.a l.n ps) (ho : Ok l ps) :
    Calls Try.prog 38 #[x.v, .pointer (some ⟨bx, 0, none⟩)] w fun e w' => e = .returned (.bool (othB l ps x.i x.t)) ∧ Below w.heap.size w w' := by
  have L1 : Hid (Below w.heap.size w (w.alloc (.cells x.cs'.toArray 37))) := (Below.refl _ w).alloc (Nat.le_refl _) _
  have B1 := Lib.hid (hb.below (Nat.le_refl _) L1.out)
  have E1 := Lib.hid (he.keep (Nat.le_refl _) L1.out)
  have HO := Lib.hid ho
  have h1 := (L1.out.cell (cell_block_lt hx)).trans hx
  have HQ : Hid (othB l ps x.i x.t = ((termF l ps x.i).2 != 0 || (termF l ps x.i).1 != x.t)) := rfl
  clear hb he ho hx
  obtain ⟨i, t, k, ck, cs, cq, a, b', c, d, l', va, vn, vc, la, ln, lc, V, L⟩ := x
  dsimp only at *
  go_enter Try.func38, Try.ntmps38
  go_wp2_with fail
  refine (term_any b l ps i _ B1.out E1.out HO.out).mono ?_
  rintro e w1 ⟨rfl, hbw⟩
  have z1 := (hbw.cell (p := ⟨w.heap.size, 1, none⟩) (by simp)).trans (show _ = some (Value.int .i64 t) by simp)
  have L2 := Lib.hid (L1.out.trans (hbw.mono (by simp)))
  clear hbw h1
  generalize termF l ps i = q at *
  obtain ⟨q1, q2⟩ := q
  dsimp only at HQ ⊢
  by_cases c1 : q2 = 0
  · subst c1
    by_cases c2 : q1 = t
    · have e1 : (q1 != t) = false := by simp [c2]
      have HF : Hid (othB l ps i t = false) := by show _ = _; rw [HQ.out, e1]; rfl
      clear c2
      go_wp2_with fail
      go_ret
      exact ⟨ret_bool HF.out.symm, L2.out⟩
    · have e1 : (q1 != t) = true := by simpa using c2
      have HF : Hid (othB l ps i t = true) := by show _ = _; rw [HQ.out, e1]; rfl
      clear c2
      go_wp2_with fail
      go_ret
      exact ⟨ret_bool HF.out.symm, L2.out⟩
  · have e1 : (q2 != 0) = true := by simpa using c1
    have HF : Hid (othB l ps i t = true) := by show _ = _; rw [HQ.out, e1]; rfl
    clear c1
    go_wp2_with fail
    go_ret
    exact ⟨ret_bool HF.out.symm, L2.out⟩
/-- The first entry that is another one. -/
def firstO (l : Lg) (ps : List (Int × Int)) : List Ent → Nat
  | [] => 0
  | e :: es => if othB l ps e.i e.t then 0 else firstO l ps es + 1
theorem firstO_le (l : Lg) (ps : List (Int × Int)) : ∀ es, firstO l ps es ≤ es.length
  | [] => Nat.le_refl _
  | e :: es => by
    rw [firstO]
    have := firstO_le l ps es
    split <;> simp <;> omega
theorem firstO_drop (l : Lg) (ps : List (Int × Int)) (es : List Ent) (k : Nat) (hk : k < es.length) (h : firstO l ps es = k + firstO l ps (es.drop k)) :
    (othB l ps (es.getD k default).i (es.getD k default).t = true → firstO l ps es = k) ∧ (othB l ps (es.getD k default).i (es.getD k default).t = false → firstO l ps es = (k + 1) + firstO l ps (es.drop (k + 1))) := by
  rw [drop_cons hk, firstO] at h
  constructor
  · intro h1; rw [h1] at h; simpa using h
  · intro h1; rw [h1] at h; simp at h; omega
theorem firstO_same (l : Lg) (ps : List (Int × Int)) : ∀ (es : List Ent) (j : Nat), j < firstO l ps es → othB l ps (es.getD j default).i (es.getD j default).t = false
  | [], j, h => absurd h (Nat.not_lt_zero _)
  | e :: es, j, h => by
    rw [firstO] at h
    split at h
    · exact absurd h (Nat.not_lt_zero _)
    · rename_i h1
      cases j with
      | zero => rw [List.getD_cons_zero]; simpa using h1
      | succ j => rw [List.getD_cons_succ]; exact firstO_same l ps es j (by omega)
theorem firstO_other (l : Lg) (ps : List (Int × Int)) : ∀ (es : List Ent), firstO l ps es < es.length → othB l ps (es.getD (firstO l ps es) default).i (es.getD (firstO l ps es) default).t = true
  | [], h => absurd h (Nat.not_lt_zero _)
  | e :: es, h => by
    rw [firstO] at h ⊢
    split
    · rename_i h1; simpa using h1
    · rename_i h1
      rw [if_neg h1] at h
      rw [List.getD_cons_succ]
      exact firstO_other l ps es (by simpa using h)
def idxI (f n : Nat) : Int := if f < n then (f : Int) else -1
theorem idx_any (bx b : Nat) (l : Lg) (ps : List (Int × Int)) (a : Option Addr) (n c : Nat) (es : List Ent) (w : World) (hx : w.cell? ⟨bx, 0, none⟩ = some (.pointer (some ⟨b, 0, none⟩))) (hb : LB w b l) (he : EP w l.a l.n ps) (ho : Ok l ps) (hy : ER w a n es) (hn : n ≤ 281474976710656) :
    Calls Try.prog 39 #[.slice a n c, .func (.func 38) #[] #[.pointer (some ⟨bx, 0, none⟩)]] w fun e w' => e = .returned (.int .i64 (idxI (firstO l ps es) n)) ∧ Below w.heap.size w w' := by
  have HX := Lib.hid hx
  have HB := Lib.hid hb
  have HE := Lib.hid he
  have HO := Lib.hid ho
  have HY := Lib.hid hy
  have HL := Lib.hid hy.1
  obtain ⟨R, hR⟩ : ∃ R, R = firstO l ps es := ⟨_, rfl⟩
  rw [← hR]
  have HR := Lib.hid hR
  have HRn : Hid (R ≤ n) := by show _ ≤ _; have := firstO_le l ps es; have := HL.out; omega
  clear hx hb he ho hy hR
  go_enter Try.func39, Try.ntmps39
  go_wp2_with fail
  go_loopw [8] (fun iv wr => ∃ k : Nat, k ≤ n ∧ iv = .int .i64 k ∧ R = k + firstO l ps (es.drop k) ∧ Below w.heap.size w wr) (fun iv _ => n - (intOf iv).toNat)
  case atStart => exact ⟨0, Nat.zero_le _, rfl, by rw [HR.out]; simp, Below.refl _ _⟩
  case round =>
    obtain ⟨k, hk, rfl, hE, hB⟩ := hrel
    have HE1 := Lib.hid hE
    have L1 := Lib.hid hB
    have X1 := (hB.cell (cell_block_lt HX.out)).trans HX.out
    have B1 := Lib.hid (HB.out.below (Nat.le_refl _) hB)
    have E1 := Lib.hid (HE.out.keep (Nat.le_refl _) hB)
    have Y1 := HY.out.keep (Nat.le_refl _) hB
    have HX1 := Lib.hid X1
    clear hE hB X1
    by_cases hlt : k < n
    · obtain ⟨bb, off, rfl, hc⟩ := Y1.row hlt
      have hd := firstO_drop l ps es k (by have := HL.out; omega) (by rw [← HR.out]; exact HE1.out)
      rw [← HR.out] at hd
      have HD := Lib.hid hd
      have q0 := hc 0 (by omega)
      have q1 := hc 1 (by omega)
      have q2 := hc 2 (by omega)
      have q3 := hc 3 (by omega)
      have q4 := hc 4 (by omega)
      have q5 := hc 5 (by omega)
      have q6 := hc 6 (by omega)
      have q7 := hc 7 (by omega)
      have q8 := hc 8 (by omega)
      have q9 := hc 9 (by omega)
      have q10 := hc 10 (by omega)
      have q11 := hc 11 (by omega)
      have q12 := hc 12 (by omega)
      clear hc hd Y1
      generalize es.getD k default = e at *
      simp only [List.getD_cons_zero, List.getD_cons_succ] at q0 q1 q2 q3 q4 q5 q6 q7 q8 q9 q10 q11 q12
      rw [Nat.add_zero] at q0
      go_wp2_with fail
      refine (closE_any bx b l ps e _ HX1.out B1.out E1.out HO.out).mono ?_
      rintro r w1 ⟨rfl, hbw⟩
      have L2 := Lib.hid (L1.out.trans (hbw.mono L1.out.size))
      clear hbw q0 q1 q2 q3 q4 q5 q6 q7 q8 q9 q10 q11 q12
      cases ho : othB l ps e.i e.t
      · have HN := Lib.hid (HD.out.2 ho)
        clear ho
        go_wp2_with fail
        go_roundw
        case rel => exact ⟨k + 1, by omega, by go_num, HN.out, L2.out⟩
        case measure => simp [intOf]; omega
      · have HN := Lib.hid (HD.out.1 ho)
        clear ho
        go_wp2_with fail
        go_ret
        exact ⟨ret_int (by rw [HN.out, idxI, if_pos hlt]), L2.out⟩
    · have HF : Hid (idxI R n = -1) := by
        show _ = _
        have h1 := HE1.out
        have h2 := HRn.out
        rw [idxI, if_neg (by omega)]
      go_wp2_with fail
      go_ret
      exact ⟨ret_int HF.out.symm, L1.out⟩
end Go.Proofs.Ytbgfpmnicpmieaa
