/- A leader's entries: the closure, and where they begin to differ. -/
import Derived.Test.YtbgfpmnicpmieaaRNew
import Derived.Deep.RegionLaw
namespace Go.Proofs.Ytbgfpmnicpmieaa
open Go Go.RowKit Go.Shelf Go.Sort
set_option linter.unusedVariables false
set_option linter.unusedSimpArgs false
set_option maxRecDepth 100000
set_option maxHeartbeats 1000000
def othB (l : Lg) (ps : List (Int × Int)) (i t : Int) : Bool := (termF l ps i).2 != 0 || (termF l ps i).1 != t
theorem clos_any (bx b : Nat) (l : Lg) (ps : List (Int × Int)) (i t : Int) (w : World) (hx : w.cell? ⟨bx, 0, none⟩ = some (.pointer (some ⟨b, 0, none⟩))) (hb : LB w b l) (he : EP w l.a l.n ps) (ho : Ok l ps) :
    Calls Try.prog 38 #[nopV i t, .pointer (some ⟨bx, 0, none⟩)] w fun e w' => e = .returned (.bool (othB l ps i t)) ∧ Below w.heap.size w w' := by
  have L1 : Hid (Below w.heap.size w (w.alloc (.cells #[.int .i64 i, .int .i64 t, .int .i64 1, .int .i64 0, .int .i64 0, .int .i64 0, eS, eS, eS, eS, .int .i64 0, nS, nS] 37))) := (Below.refl _ w).alloc (Nat.le_refl _) _
  have B1 := Lib.hid (hb.below (Nat.le_refl _) L1.out)
  have E1 := Lib.hid (he.keep (Nat.le_refl _) L1.out)
  have HO := Lib.hid ho
  have h1 := (L1.out.cell (cell_block_lt hx)).trans hx
  have HQ : Hid (othB l ps i t = ((termF l ps i).2 != 0 || (termF l ps i).1 != t)) := rfl
  clear hb he ho hx
  go_enter Try.func38, Try.ntmps38
  go_wp2_with fail
  refine (term_any b l ps i _ B1.out E1.out HO.out).mono ?_
  rintro e w1 ⟨rfl, hbw⟩
  have z1 := (hbw.cell (p := ⟨w.heap.size, 1, none⟩) (by simp)).trans (show _ = some (Value.int .i64 t) by simp)
  have L2 := Lib.hid (L1.out.trans (hbw.mono (by simp)))
  clear hbw h1
  generalize termF l ps i = q at *
  obtain ⟨q1, q2⟩ := q
  dsimp only at HQ ⊢
  by_cases c1 : q2 = 0
  · subst c1
    by_cases c2 : q1 = t
    · have e1 : (q1 != t) = false := by simp [c2]
      have HF : Hid (othB l ps i t = false) := by show _ = _; rw [HQ.out, e1]; rfl
      clear c2
      go_wp2_with fail
      go_ret
      exact ⟨ret_bool HF.out.symm, L2.out⟩
    · have e1 : (q1 != t) = true := by simpa using c2
      have HF : Hid (othB l ps i t = true) := by show _ = _; rw [HQ.out, e1]; rfl
      clear c2
      go_wp2_with fail
      go_ret
      exact ⟨ret_bool HF.out.symm, L2.out⟩
  · have e1 : (q2 != 0) = true := by simpa using c1
    have HF : Hid (othB l ps i t = true) := by show _ = _; rw [HQ.out, e1]; rfl
    clear c1
    go_wp2_with fail
    go_ret
    exact ⟨ret_bool HF.out.symm, L2.out⟩
theorem idx_first (bx b : Nat) (l : Lg) (ps : List (Int × Int)) (a : Option Addr) (n c : Nat) (ys : List (Int × Int)) (w : World) (hx : w.cell? ⟨bx, 0, none⟩ = some (.pointer (some ⟨b, 0, none⟩))) (hb : LB w b l) (he : EP w l.a l.n ps) (ho : Ok l ps) (hy : RN w a n ys) (hn : 0 < n) (hoth : othB l ps (ys.getD 0 (0, 0)).1 (ys.getD 0 (0, 0)).2 = true) :
    Calls Try.prog 39 #[.slice a n c, .func (.func 38) #[] #[.pointer (some ⟨bx, 0, none⟩)]] w fun e w' => e = .returned (.int .i64 0) ∧ Below w.heap.size w w' := by
  have HX := Lib.hid hx
  have HB := Lib.hid hb
  have HE := Lib.hid he
  have HO := Lib.hid ho
  have HT := Lib.hid hoth
  rcases hy.2 with h0 | ⟨bb, off, rfl, hc⟩
  · omega
  have q0 := hc 0 hn 0 (by omega)
  have q1 := hc 0 hn 1 (by omega)
  have q2 := hc 0 hn 2 (by omega)
  have q3 := hc 0 hn 3 (by omega)
  have q4 := hc 0 hn 4 (by omega)
  have q5 := hc 0 hn 5 (by omega)
  have q6 := hc 0 hn 6 (by omega)
  have q7 := hc 0 hn 7 (by omega)
  have q8 := hc 0 hn 8 (by omega)
  have q9 := hc 0 hn 9 (by omega)
  have q10 := hc 0 hn 10 (by omega)
  have q11 := hc 0 hn 11 (by omega)
  have q12 := hc 0 hn 12 (by omega)
  clear hc hx hb he ho hoth hy
  generalize (ys.getD 0 (0, 0)).1 = i at *
  generalize (ys.getD 0 (0, 0)).2 = t at *
  simp only [List.getD_cons_zero, List.getD_cons_succ, Nat.zero_mul, Nat.add_zero] at q0 q1 q2 q3 q4 q5 q6 q7 q8 q9 q10 q11 q12
  have hn' : (0 : Int) < (n : Int) := by omega
  go_enter Try.func39, Try.ntmps39
  go_wp2_with fail
  go_loopw [8] (fun iv wr => iv = .int .i64 0 ∧ wr = w) (fun _ _ => 0)
  case atStart => exact ⟨rfl, rfl⟩
  case round =>
    obtain ⟨rfl, rfl⟩ := hrel
    go_wp2_with fail
    refine (clos_any bx b l ps i t _ HX.out HB.out HE.out HO.out).mono ?_
    rintro e w1 ⟨rfl, hbw⟩
    rw [HT.out]
    have L1 := Lib.hid hbw
    clear hbw
    go_wp2_with fail
    go_ret
    exact ⟨rfl, L1.out⟩
end Go.Proofs.Ytbgfpmnicpmieaa
