/- Plain entries: they are good. -/
import Derived.Test.YtbgfpmnicpmieaaRTerm
namespace Go.Proofs.Ytbgfpmnicpmieaa
open Go Go.RowKit Go.Shelf Go.Sort
set_option linter.unusedVariables false
set_option linter.unusedSimpArgs false
set_option maxRecDepth 100000
set_option maxHeartbeats 1000000
abbrev eS : Value := .string ⟨#[]⟩
abbrev nS : Value := .slice none 0 0
/-- A plain entry's cells. -/
abbrev nopC (i t : Int) : List Value := [.int .i64 i, .int .i64 t, .int .i64 1, .int .i64 0, .int .i64 0, .int .i64 0, eS, eS, eS, eS, .int .i64 0, nS, nS]
abbrev nopV (i t : Int) : Value := .agg #[.int .i64 i, .int .i64 t, .int .i64 1, .int .i64 0, .int .i64 0, .int .i64 0, eS, eS, eS, eS, .int .i64 0, nS, nS]
theorem noop_any (i t : Int) (w : World) : Calls Try.prog 31 #[.int .i64 i, .int .i64 t] w fun e w' => e = .returned (nopV i t) ∧ Below w.heap.size w w' := by
  go_enter Try.func31, Try.ntmps31
  go_wp2_with fail
  refine bodyPost_ret (v := nopV i t) (by simp [results, Try.results31, go_sem, World.cell?_alloc_new]) rfl ⟨rfl, (Below.refl _ w).alloc (Nat.le_refl _) _⟩
theorem none_any (w : World) : Calls Try.prog 67 #[.agg #[nS, nS]] w fun e w' => e = .returned (.bool true) ∧ Below w.heap.size w w' := by
  go_enter Try.func67, Try.ntmps67
  go_wp2_with fail
  go_ret
  exact ⟨rfl, (Below.refl _ w).alloc (Nat.le_refl _) _⟩
theorem good_nop (i t : Int) (h1 : 1 ≤ i) (h2 : 1 ≤ t) (w : World) : Calls Try.prog 61 #[nopV i t] w fun e w' => e = .returned (.bool true) ∧ Below w.heap.size w w' := by
  have d1 : decide (i < 1) = false := decide_eq_false (by omega)
  have d2 : decide (t < 1) = false := decide_eq_false (by omega)
  go_enter Try.func61, Try.ntmps61
  go_wp2_with fail
  refine (none_any _).mono ?_
  rintro e w1 ⟨rfl, hb⟩
  have L1 : Hid (Below w.heap.size w w1) := ((Below.refl _ w).alloc (Nat.le_refl _) _).trans (hb.mono (by simp))
  clear hb
  go_wp2_with fail
  go_ret
  exact ⟨rfl, L1.out⟩
/-- Plain entries in a row. -/
def RN (w : World) (a : Option Addr) (n : Nat) (ps : List (Int × Int)) : Prop :=
  ps.length = n ∧ (n = 0 ∨ ∃ b off, a = some ⟨b, off, none⟩ ∧ ∀ j, j < n → ∀ c, c < 13 → w.cell? ⟨b, off + j * 13 + c, none⟩ = some ((nopC (ps.getD j (0, 0)).1 (ps.getD j (0, 0)).2).getD c undef))
theorem RN.keep {w w' : World} {a : Option Addr} {n : Nat} {l : List (Int × Int)} {m : Nat} (h : RN w a n l) (hm : w.heap.size ≤ m) (hb : Below m w w') : RN w' a n l := by
  refine ⟨h.1, ?_⟩
  rcases h.2 with h0 | ⟨b, off, e, hc⟩
  · exact .inl h0
  · refine .inr ⟨b, off, e, fun j hj c hc' => ?_⟩
    have h1 := hc j hj c hc'
    exact (hb.cell (Nat.lt_of_lt_of_le (cell_block_lt h1) hm)).trans h1
theorem RN.ep {w : World} {a : Option Addr} {n : Nat} {l : List (Int × Int)} (h : RN w a n l) : EP w a n l := by
  refine ⟨h.1, ?_⟩
  rcases h.2 with h0 | ⟨b, off, e, hc⟩
  · exact .inl h0
  · exact .inr ⟨b, off, e, fun j hj => ⟨hc j hj 0 (by omega), hc j hj 1 (by omega)⟩⟩
def termAt (tm : Int) (ps : List (Int × Int)) (k : Nat) : Int := if k = 0 then tm else (ps.getD (k - 1) (0, 0)).2
theorem chain_nop (ix tm : Int) (a : Option Addr) (n c : Nat) (ps : List (Int × Int)) (w : World) (h : RN w a n ps) (hn : n ≤ 1000) (h0 : 0 ≤ ix) (h1 : ix ≤ 1099511627776) (hrow : ∀ j, j < n → (ps.getD j (0, 0)).1 = ix + 1 + j) (hterm : ∀ j, j < n → termAt tm ps j ≤ (ps.getD j (0, 0)).2 ∧ 1 ≤ (ps.getD j (0, 0)).2) :
    Calls Try.prog 36 #[.int .i64 ix, .int .i64 tm, .slice a n c] w fun e w' => e = .returned (.bool true) ∧ Below w.heap.size w w' := by
  have HR := Lib.hid h
  have HROW := Lib.hid hrow
  have HT := Lib.hid hterm
  obtain ⟨s, hs⟩ : ∃ s, s = w.heap.size := ⟨_, rfl⟩
  have HS := Lib.hid hs
  clear h hrow hterm hs
  go_enter Try.func36, Try.ntmps36
  go_wp2_with fail
  go_loopw [0, 1, 11] (fun xv tv iv wr => ∃ k : Nat, k ≤ n ∧ iv = .int .i64 k ∧ xv = .int .i64 (ix + k) ∧ tv = .int .i64 (termAt tm ps k) ∧ Below s w wr) (fun _ _ iv _ => n - (intOf iv).toNat)
  case atStart => exact ⟨0, by omega, rfl, by simp, rfl, Below.refl _ _⟩
  case round =>
    obtain ⟨k, hk, rfl, rfl, rfl, hB⟩ := hrel
    have R1 := HR.out.keep (Nat.le_of_eq HS.out.symm) hB
    have HB := Lib.hid hB
    clear hB
    by_cases hlt : k < n
    · rcases R1.2 with hz | ⟨b, off, rfl, hc⟩
      · omega
      have hy1 := HROW.out k hlt
      have hy2 := HT.out k hlt
      have hk1 : Hid (termAt tm ps (k + 1) = (ps.getD k (0, 0)).2) := by
        show _ = _
        simp [termAt]
      have q0 := hc k hlt 0 (by omega)
      have q1 := hc k hlt 1 (by omega)
      have q2 := hc k hlt 2 (by omega)
      have q3 := hc k hlt 3 (by omega)
      have q4 := hc k hlt 4 (by omega)
      have q5 := hc k hlt 5 (by omega)
      have q6 := hc k hlt 6 (by omega)
      have q7 := hc k hlt 7 (by omega)
      have q8 := hc k hlt 8 (by omega)
      have q9 := hc k hlt 9 (by omega)
      have q10 := hc k hlt 10 (by omega)
      have q11 := hc k hlt 11 (by omega)
      have q12 := hc k hlt 12 (by omega)
      clear hc R1
      rw [hy1] at q0
      generalize (ps.getD k (0, 0)).1 = y1 at *
      generalize (ps.getD k (0, 0)).2 = y2 at *
      generalize termAt tm ps k = T at *
      simp only [List.getD_cons_zero, List.getD_cons_succ] at q0 q1 q2 q3 q4 q5 q6 q7 q8 q9 q10 q11 q12
      rw [Nat.add_zero] at q0
      have hY := Lib.hid hy2
      have e1 : ((ix + 1 + (k : Int) - 1) != (ix + (k : Int))) = false := by simp; omega
      have e2 : decide (y2 < T) = false := decide_eq_false (by omega)
      clear hy1 hy2
      go_wp2_with fail
      refine (good_nop _ _ (by omega) hY.out.2 _).mono ?_
      rintro e w1 ⟨rfl, hb⟩
      have hz : s ≤ wr.heap.size := by have := HB.out.size; have := HS.out; omega
      have z0 := (hb.cell (p := ⟨wr.heap.size, 0, none⟩) (by simp)).trans (show _ = some (Value.int .i64 (ix + 1 + (k : Int))) by simp)
      have z1 := (hb.cell (p := ⟨wr.heap.size, 1, none⟩) (by simp)).trans (show _ = some (Value.int .i64 y2) by simp)
      have HB1 : Hid (Below s w w1) := (HB.out.alloc hz _).trans (hb.mono (by simp; omega))
      clear hb q0 q1 q2 q3 q4 q5 q6 q7 q8 q9 q10 q11 q12
      go_wp2_with fail
      go_quiet (fail)
      go_wp2_with fail
      go_roundw
      case rel =>
        refine ⟨k + 1, by omega, by go_num, ?_, by rw [hk1.out], below_drewN' HB1.out nq⟩
        congr 1
        omega
      case measure => simp [intOf]; omega
    · go_wp2
      go_ret
      exact ⟨rfl, by rw [← HS.out]; exact HB.out⟩
end Go.Proofs.Ytbgfpmnicpmieaa
