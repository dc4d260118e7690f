/- The walks of progress, one function each. -/
import Derived.Test.YtjjibjamalieiaaProg
import Derived.WalkKit
import Derived.IntWalk
import Derived.Lib.Hide
import Derived.Deep.QuietTactic
import Derived.BigQuiet
import Derived.Laws.Rows
import Derived.Laws.Tables
import Derived.Deep.RegionHeld3
import Derived.Deep.DeepCutAuto
namespace Go.Proofs.Ytjjibjamalieiaa
open Go Go.RowKit
set_option linter.unusedVariables false
set_option linter.unusedSimpArgs false
set_option maxRecDepth 100000

/-- What a leader knows of a member. -/
structure Pg where
  nx : Int
  mt : Int
  md : Int
  un : Bool
  sn : Int
/-- Its block. -/
def PB (w : World) (b : Nat) (p : Pg) : Prop := w.heap[b]? = some (.cells #[.int .i64 p.nx, .int .i64 p.mt, .int .i64 p.md, .bool p.un, .int .i64 p.sn] 50 (0, 0))
theorem PB.c0 {w b p} (h : PB w b p) : w.cell? ⟨b, 0, none⟩ = some (.int .i64 p.nx) := by unfold PB at h; simp [World.cell?, h]
theorem PB.c1 {w b p} (h : PB w b p) : w.cell? ⟨b, 1, none⟩ = some (.int .i64 p.mt) := by unfold PB at h; simp [World.cell?, h]
theorem PB.c2 {w b p} (h : PB w b p) : w.cell? ⟨b, 2, none⟩ = some (.int .i64 p.md) := by unfold PB at h; simp [World.cell?, h]
theorem PB.c3 {w b p} (h : PB w b p) : w.cell? ⟨b, 3, none⟩ = some (.bool p.un) := by unfold PB at h; simp [World.cell?, h]
theorem PB.c4 {w b p} (h : PB w b p) : w.cell? ⟨b, 4, none⟩ = some (.int .i64 p.sn) := by unfold PB at h; simp [World.cell?, h]
theorem PB.frozen {w b p} (h : PB w b p) (j : Nat) : w.frozen? ⟨b, j, none⟩ = false := by unfold PB at h; simp [World.frozen?, h]
theorem PB.lt {w b p} (h : PB w b p) : b < w.heap.size := (Array.getElem?_eq_some_iff.1 h).1
theorem PB.below {w w' b p} (h : PB w b p) (hb : Below w.heap.size w w') : PB w' b p := (hb.block b h.lt).trans h
theorem PB.s0 {w b p} (h : PB w b p) (x : Int) : PB (w.setCell ⟨b, 0, none⟩ (.int .i64 x)) b { p with nx := x } := by
  have := heap_setCell_same w b 0 _ 50 (.int .i64 x) h
  unfold PB; rw [this]; rfl
theorem PB.s1 {w b p} (h : PB w b p) (x : Int) : PB (w.setCell ⟨b, 1, none⟩ (.int .i64 x)) b { p with mt := x } := by
  have := heap_setCell_same w b 1 _ 50 (.int .i64 x) h
  unfold PB; rw [this]; rfl
theorem PB.s2 {w b p} (h : PB w b p) (x : Int) : PB (w.setCell ⟨b, 2, none⟩ (.int .i64 x)) b { p with md := x } := by
  have := heap_setCell_same w b 2 _ 50 (.int .i64 x) h
  unfold PB; rw [this]; rfl
theorem PB.s3 {w b p} (h : PB w b p) (x : Bool) : PB (w.setCell ⟨b, 3, none⟩ (.bool x)) b { p with un := x } := by
  have := heap_setCell_same w b 3 _ 50 (.bool x) h
  unfold PB; rw [this]; rfl
theorem PB.s4 {w b p} (h : PB w b p) (x : Int) : PB (w.setCell ⟨b, 4, none⟩ (.int .i64 x)) b { p with sn := x } := by
  have := heap_setCell_same w b 4 _ 50 (.int .i64 x) h
  unfold PB; rw [this]; rfl
/-- Of what was there ahead of B, at or below block b, nothing has turned. -/
def Only (b : Nat) (w w' : World) : Prop := w'.heap.size = w.heap.size ∧ ∀ B a, B ≤ b → Below B a w → Below B a w'
theorem Only.refl (b : Nat) (w : World) : Only b w w := ⟨rfl, fun _ _ _ h => h⟩
theorem Only.set {b : Nat} {w w' : World} (h : Only b w w') {p : Addr} (hp : p.block = b) (u : Value) : Only b w (w'.setCell p u) :=
  ⟨by rw [← h.1]; simp [World.setCell], fun B a hB hb => (h.2 B a hB hb).setCell (by rw [hp]; exact hB) u⟩
theorem Only.drew {b : Nat} {w w' : World} (h : Only b w w') : Only b w w'.drew := ⟨h.1, fun B a hB hb => (h.2 B a hB hb).drew⟩

/-- The greatest number that counts. -/
abbrev most : Int := 1125899906842624
def cutF (n : Int) : Int := min (max n 0) most
theorem cutF_range (n : Int) : 0 ≤ cutF n ∧ cutF n ≤ most := by unfold cutF most; omega
theorem cutF_id {n : Int} (h0 : 0 ≤ n) (h1 : n ≤ most) : cutF n = n := by unfold cutF; omega
theorem ret_i {k : IntKind} {a b : Int} (h : a = b) : Ending.returned (.int k a) = .returned (.int k b) := by rw [h]
theorem cut_any (n : Int) (w : World) : Calls Try.prog 37 #[.int .i64 n] w fun e w' => e = .returned (.int .i64 (cutF n)) ∧ w = w' := by
  go_enter Try.func37, Try.ntmps37
  go_wp2
  all_goals (go_ret; exact ⟨ret_i (by unfold cutF most; omega), rfl⟩)
theorem made_any (p : Pg) (b : Nat) (w : World) (hb : PB w b p) : Calls Try.prog 38 #[.pointer (some ⟨b, 0, none⟩)] w fun e w' => e = .returned (.bool (p.md != 0)) ∧ w = w' := by
  have h2 := hb.c2
  clear hb
  go_enter Try.func38, Try.ntmps38
  go_wp2
  go_ret
  exact ⟨rfl, rfl⟩
theorem made_nil (w : World) : Calls Try.prog 38 #[.pointer none] w fun e w' => e = .returned (.bool false) ∧ w = w' := by
  go_enter Try.func38, Try.ntmps38
  go_wp2
  go_ret
  exact ⟨rfl, rfl⟩
theorem new_any (n : Int) (w : World) : Calls Try.prog 19 #[.int .i64 n] w fun e w' => e = .returned (.pointer (some ⟨w.heap.size, 0, none⟩)) ∧ PB w' w.heap.size ⟨max (cutF n) 1, 0, 1, false, 0⟩ ∧ w.heap.size < w'.heap.size ∧ Below w.heap.size w w' := by
  have hc := cutF_range n
  go_enter Try.func19, Try.ntmps19
  go_wp2_with (go_at_call 37; refine (cut_any n _).mono ?_; rintro e w' ⟨rfl, rfl⟩)
  all_goals
    go_ret
    refine ⟨rfl, ?_, by simp, (Below.refl _ w).alloc (Nat.le_refl _) _⟩
    have e := heap_alloc_new w
    unfold PB
    rw [e]
    first
      | (have h2 : max (cutF n) 1 = 1 := by omega
         simp [h2])
      | (have h2 : max (cutF n) 1 = cutF n := by omega
         simp [h2])
theorem next_any (p : Pg) (hm : (p.md != 0) = true) (b : Nat) (w : World) (hb : PB w b p) : Calls Try.prog 20 #[.pointer (some ⟨b, 0, none⟩)] w fun e w' => e = .returned (.int .i64 p.nx) ∧ w = w' := by
  have h0 := hb.c0
  go_enter Try.func20, Try.ntmps20
  go_wp2_with (go_at_call 38; refine (made_any p b _ hb).mono ?_; rintro e w' ⟨rfl, rfl⟩)
  go_ret
  exact ⟨rfl, rfl⟩
theorem match_any (p : Pg) (hm : (p.md != 0) = true) (b : Nat) (w : World) (hb : PB w b p) : Calls Try.prog 22 #[.pointer (some ⟨b, 0, none⟩)] w fun e w' => e = .returned (.int .i64 p.mt) ∧ w = w' := by
  have h0 := hb.c1
  go_enter Try.func22, Try.ntmps22
  go_wp2_with (go_at_call 38; refine (made_any p b _ hb).mono ?_; rintro e w' ⟨rfl, rfl⟩)
  go_ret
  exact ⟨rfl, rfl⟩
theorem mode_any (p : Pg) (hm : (p.md != 0) = true) (b : Nat) (w : World) (hb : PB w b p) : Calls Try.prog 23 #[.pointer (some ⟨b, 0, none⟩)] w fun e w' => e = .returned (.int .i64 p.md) ∧ w = w' := by
  have h0 := hb.c2
  go_enter Try.func23, Try.ntmps23
  go_wp2_with (go_at_call 38; refine (made_any p b _ hb).mono ?_; rintro e w' ⟨rfl, rfl⟩)
  go_ret
  exact ⟨rfl, rfl⟩
theorem free_any (p : Pg) (b : Nat) (w : World) (hb : PB w b p) : Calls Try.prog 40 #[.pointer (some ⟨b, 0, none⟩)] w fun e w' => e = .returned (.bool (!p.un)) ∧ w = w' := by
  have h0 := hb.c3
  go_enter Try.func40, Try.ntmps40
  go_wp2
  go_ret
  exact ⟨rfl, rfl⟩
theorem always_any (b : Nat) (w : World) : Calls Try.prog 41 #[.pointer (some ⟨b, 0, none⟩)] w fun e w' => e = .returned (.bool true) ∧ w = w' := by
  go_enter Try.func41, Try.ntmps41
  go_wp2
  go_ret
  exact ⟨rfl, rfl⟩
theorem rule1_any (w : World) : Calls Try.prog 39 #[.int .i64 1] w fun e w' => e = .returned (.func (.func 40) #[] #[]) ∧ w = w' := by
  go_enter Try.func39, Try.ntmps39
  go_wp2
  go_ret
  exact ⟨rfl, rfl⟩
theorem rule2_any (w : World) : Calls Try.prog 39 #[.int .i64 2] w fun e w' => e = .returned (.func (.func 41) #[] #[]) ∧ w = w' := by
  go_enter Try.func39, Try.ntmps39
  go_wp2
  go_ret
  exact ⟨rfl, rfl⟩
theorem may1_any (p : Pg) (h1 : p.md = 1) (b : Nat) (w : World) (hb : PB w b p) : Calls Try.prog 27 #[.pointer (some ⟨b, 0, none⟩)] w fun e w' => e = .returned (.bool (!p.un)) ∧ w = w' := by
  obtain ⟨nx, mt, md, un, sn⟩ := p
  subst h1
  have h0 := hb.c2
  go_enter Try.func27, Try.ntmps27
  go_wp2_with (first | (go_at_call 38; refine (made_any _ b _ hb).mono ?_; rintro e w' ⟨rfl, rfl⟩) | (go_at_call 39; refine (rule1_any _).mono ?_; rintro e w' ⟨rfl, rfl⟩) | (go_at_call 40; refine (free_any _ b _ hb).mono ?_; rintro e w' ⟨rfl, rfl⟩))
  go_ret
  exact ⟨rfl, rfl⟩
theorem may2_any (p : Pg) (h1 : p.md = 2) (b : Nat) (w : World) (hb : PB w b p) : Calls Try.prog 27 #[.pointer (some ⟨b, 0, none⟩)] w fun e w' => e = .returned (.bool true) ∧ w = w' := by
  obtain ⟨nx, mt, md, un, sn⟩ := p
  subst h1
  have h0 := hb.c2
  go_enter Try.func27, Try.ntmps27
  go_wp2_with (first | (go_at_call 38; refine (made_any _ b _ hb).mono ?_; rintro e w' ⟨rfl, rfl⟩) | (go_at_call 39; refine (rule2_any _).mono ?_; rintro e w' ⟨rfl, rfl⟩) | (go_at_call 41; refine (always_any b _).mono ?_; rintro e w' ⟨rfl, rfl⟩))
  go_ret
  exact ⟨rfl, rfl⟩
theorem sent1_any (p : Pg) (h1 : p.md = 1) (n : Int) (b : Nat) (w : World) (hb : PB w b p) : Calls Try.prog 25 #[.pointer (some ⟨b, 0, none⟩), .int .i64 n] w fun e w' => e = .returned (.tuple #[]) ∧ PB w' b { p with un := true } ∧ Only b w w' := by
  obtain ⟨nx, mt, md, un, sn⟩ := p
  subst h1
  have h0 := hb.c2
  have h3 := hb.c3
  have f3 := hb.frozen 3
  have HB := Lib.hid hb
  clear hb
  go_enter Try.func25, Try.ntmps25
  go_wp2_with (go_at_call 38; refine (made_any _ b _ HB.out).mono ?_; rintro e w' ⟨rfl, rfl⟩)
  refine bodyPost_end (v := .tuple #[]) (by simp [results, Try.results25, go_sem]) rfl ⟨rfl, HB.out.s3 true, (Only.refl b w).set (p := ⟨b, 3, none⟩) rfl _⟩
theorem beat1_any (p : Pg) (h1 : p.md = 1) (b : Nat) (w : World) (hb : PB w b p) : True := trivial
theorem said1_any (p : Pg) (h1 : p.md = 1) (i : Int) (h0 : 0 ≤ i) (hi : i ≤ most) (hmt : p.mt ≤ i) (b : Nat) (w : World) (hb : PB w b p) : Calls Try.prog 21 #[.pointer (some ⟨b, 0, none⟩), .int .i64 i] w fun e w' => e = .returned (.bool (decide (p.mt < i))) ∧ PB w' b { p with nx := i + 1, mt := i, md := 2, un := false } ∧ Only b w w' := by
  obtain ⟨nx, mt, md, un, sn⟩ := p
  subst h1
  have HC := Lib.hid (cutF_id h0 hi)
  have hnlt : decide (i < mt) = false := decide_eq_false (by show ¬ i < mt; have : mt ≤ i := hmt; omega)
  have hw : IntKind.i64.wrap (i + 1) = i + 1 := IntWalk.i64_in _ (by unfold most at hi; omega)
  have q0 := hb.c0
  have q1 := hb.c1
  have q2 := hb.c2
  have q3 := hb.c3
  have q4 := hb.c4
  have f0 := hb.frozen 0
  have f1 := hb.frozen 1
  have f2 := hb.frozen 2
  have f3 := hb.frozen 3
  have HB := Lib.hid hb
  clear hb h0 hi hmt
  go_enter Try.func21, Try.ntmps21
  go_wp2_with (first | (go_at_call 37; refine (cut_any i _).mono ?_; rintro e w' ⟨rfl, rfl⟩; rw [HC.out]) | (go_at_call 38; refine (made_any _ b _ HB.out).mono ?_; rintro e w' ⟨rfl, rfl⟩))
  all_goals
    go_ret
    refine ⟨rfl, ((((HB.out.s1 _).s0 _).s3 _).s2 _).s0 _, ?_⟩
    exact (((((Only.refl b w).set (p := ⟨b, 1, none⟩) rfl _).set (p := ⟨b, 0, none⟩) rfl _).set (p := ⟨b, 3, none⟩) rfl _).set (p := ⟨b, 2, none⟩) rfl _).set (p := ⟨b, 0, none⟩) rfl _
theorem fin_ref {w : World} {b : Nat} {p : Pg} (h : PB w b p) (V M : Int) (e : M = V) : PB (((w.setCell ⟨b, 0, none⟩ (.int .i64 V)).setCell ⟨b, 2, none⟩ (.int .i64 1)).setCell ⟨b, 3, none⟩ (.bool false)) b { p with nx := M, md := 1, un := false } := by
  subst e; exact ((h.s0 _).s2 _).s3 _
/-- Refused, where it counts. -/
theorem refused_any (p : Pg) (hm : (p.md = 1 ∨ p.md = 2)) (x hint : Int) (h0 : 0 ≤ x) (hx : x ≤ most) (g0 : 0 ≤ hint) (gx : hint ≤ most) (hmt : p.mt < x) (hm0 : 0 ≤ p.mt) (hnx : p.md = 1 → x = p.nx - 1) (b : Nat) (w : World) (hb : PB w b p) : Calls Try.prog 26 #[.pointer (some ⟨b, 0, none⟩), .int .i64 x, .int .i64 hint] w fun e w' => e = .returned (.bool true) ∧ PB w' b { p with nx := max (min x (hint + 1)) (p.mt + 1), md := 1, un := false } ∧ Only b w w' := by
  obtain ⟨nx, mt, md, un, sn⟩ := p
  have HC := Lib.hid (cutF_id h0 hx)
  have HD := Lib.hid (cutF_id g0 gx)
  have hmd : (md != 0) = true := by
    rcases hm with h | h
    · subst h; rfl
    · subst h; rfl
  have hle : decide (x ≤ mt) = false := decide_eq_false (by have : mt < x := hmt; omega)
  have hw1 : IntKind.i64.wrap (hint + 1) = hint + 1 := IntWalk.i64_in _ (by unfold most at gx; omega)
  have hw2 : IntKind.i64.wrap (mt + 1) = mt + 1 := IntWalk.i64_in _ (by have : mt < x := hmt; have : 0 ≤ mt := hm0; unfold most at hx; omega)
  have q0 := hb.c0
  have q1 := hb.c1
  have q2 := hb.c2
  have q3 := hb.c3
  have q4 := hb.c4
  have f0 := hb.frozen 0
  have f1 := hb.frozen 1
  have f2 := hb.frozen 2
  have f3 := hb.frozen 3
  have HB := Lib.hid hb
  have HM := Lib.hid hmd
  have e0 : Hid (0 ≤ x ∧ x ≤ most ∧ 0 ≤ hint ∧ hint ≤ most ∧ mt < x ∧ 0 ≤ mt) := ⟨h0, hx, g0, gx, hmt, hm0⟩
  clear hb h0 hx g0 gx hmt hm0 hmd
  have hmd2 : (md != 2) = true ∧ x = nx - 1 ∨ (md != 2) = false := by
    rcases hm with h | h
    · subst h; exact .inl ⟨rfl, hnx rfl⟩
    · subst h; exact .inr rfl
  have hm' : md = 1 ∨ md = 2 := hm
  clear hm hnx
  rcases hmd2 with ⟨hmd2, hx2⟩ | hmd2
  · have hw3 : IntKind.i64.wrap (nx - 1) = x := by rw [← hx2]; exact IntWalk.i64_in _ (by have := e0.out; unfold most at this; omega)
    have hmne : (x != x) = false := by simp
    clear hx2 hm'
    go_enter Try.func26, Try.ntmps26
    go_wp2_with (first | (go_at_call_of 37 (Value.int .i64 x); refine (cut_any x _).mono ?_; rintro e w' ⟨rfl, rfl⟩; rw [HC.out]) | (go_at_call_of 37 (Value.int .i64 hint); refine (cut_any hint _).mono ?_; rintro e w' ⟨rfl, rfl⟩; rw [HD.out]) | (go_at_call 38; refine (made_any _ b _ HB.out).mono ?_; rintro e w' ⟨rfl, rfl⟩; rw [HM.out]))
    all_goals
      go_ret
      exact ⟨rfl, fin_ref HB.out _ _ (by have := e0.out; omega), (((Only.refl b w).set (p := ⟨b, 0, none⟩) rfl _).set (p := ⟨b, 2, none⟩) rfl _).set (p := ⟨b, 3, none⟩) rfl _⟩
  · clear hm'
    go_enter Try.func26, Try.ntmps26
    go_wp2_with (first | (go_at_call_of 37 (Value.int .i64 x); refine (cut_any x _).mono ?_; rintro e w' ⟨rfl, rfl⟩; rw [HC.out]) | (go_at_call_of 37 (Value.int .i64 hint); refine (cut_any hint _).mono ?_; rintro e w' ⟨rfl, rfl⟩; rw [HD.out]) | (go_at_call 38; refine (made_any _ b _ HB.out).mono ?_; rintro e w' ⟨rfl, rfl⟩; rw [HM.out]))
    all_goals
      go_ret
      exact ⟨rfl, fin_ref HB.out _ _ (by have := e0.out; omega), (((Only.refl b w).set (p := ⟨b, 0, none⟩) rfl _).set (p := ⟨b, 2, none⟩) rfl _).set (p := ⟨b, 3, none⟩) rfl _⟩
end Go.Proofs.Ytjjibjamalieiaa
