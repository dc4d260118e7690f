/- The log as a node sees it: its block, and its entries' indexes and terms. -/
import Derived.Test.YtbgfpmnicpmieaaProg
import Derived.WalkKit
import Derived.WalkSpells
import Derived.WalkMore
import Derived.IntWalk
import Derived.Lib.Hide
import Derived.OpenShut
import Derived.Laws.Rows
import Derived.Below
import Derived.BigQuiet
import Derived.Deep.DeepCutAuto
import Derived.Shelf.GgClosure.Gives
namespace Go.Proofs.Ytbgfpmnicpmieaa
open Go Go.RowKit
set_option linter.unusedVariables false
set_option linter.unusedSimpArgs false
set_option maxRecDepth 100000
set_option maxHeartbeats 1000000
theorem ret_bool {a b : Bool} (h : a = b) : Ending.returned (.bool a) = .returned (.bool b) := by rw [h]
theorem ret_int {k : IntKind} {a b : Int} (h : a = b) : Ending.returned (.int k a) = .returned (.int k b) := by rw [h]
theorem cell_block_lt {W : World} {p : Addr} {x : Value} (h : W.cell? p = some x) : p.block < W.heap.size := by
  unfold World.cell? at h
  cases e : W.heap[p.block]? with
  | none => simp [e] at h
  | some o => exact (Array.getElem?_eq_some_iff.1 e).1
/-- A log that is made. -/
structure Lg where
  ix : Int
  tm : Int
  a : Option Addr
  n : Nat
  c : Nat
  com : Int
  app : Int
  sur : Int
  is : Bool
def LB (w : World) (b : Nat) (l : Lg) : Prop := w.heap[b]? = some (.cells #[.int .i64 l.ix, .int .i64 l.tm, .slice l.a l.n l.c, .int .i64 l.com, .int .i64 l.app, .int .i64 l.sur, .bool l.is] 64 (0, 0))
theorem LB.c0 {w b l} (h : LB w b l) : w.cell? ⟨b, 0, none⟩ = some (.int .i64 l.ix) := by unfold LB at h; simp [World.cell?, h]
theorem LB.c1 {w b l} (h : LB w b l) : w.cell? ⟨b, 1, none⟩ = some (.int .i64 l.tm) := by unfold LB at h; simp [World.cell?, h]
theorem LB.c2 {w b l} (h : LB w b l) : w.cell? ⟨b, 2, none⟩ = some (.slice l.a l.n l.c) := by unfold LB at h; simp [World.cell?, h]
theorem LB.c3 {w b l} (h : LB w b l) : w.cell? ⟨b, 3, none⟩ = some (.int .i64 l.com) := by unfold LB at h; simp [World.cell?, h]
theorem LB.c4 {w b l} (h : LB w b l) : w.cell? ⟨b, 4, none⟩ = some (.int .i64 l.app) := by unfold LB at h; simp [World.cell?, h]
theorem LB.c5 {w b l} (h : LB w b l) : w.cell? ⟨b, 5, none⟩ = some (.int .i64 l.sur) := by unfold LB at h; simp [World.cell?, h]
theorem LB.c6 {w b l} (h : LB w b l) : w.cell? ⟨b, 6, none⟩ = some (.bool l.is) := by unfold LB at h; simp [World.cell?, h]
theorem LB.frozen {w b l} (h : LB w b l) (j : Nat) : w.frozen? ⟨b, j, none⟩ = false := by unfold LB at h; simp [World.frozen?, h]
theorem LB.lt {w b l} (h : LB w b l) : b < w.heap.size := (Array.getElem?_eq_some_iff.1 h).1
theorem LB.below {w w' b l} {m : Nat} (h : LB w b l) (hm : w.heap.size ≤ m) (hb : Below m w w') : LB w' b l := (hb.block b (Nat.lt_of_lt_of_le h.lt hm)).trans h
/-- Entries' indexes and terms, as they lie in a row. -/
def EP (w : World) (a : Option Addr) (n : Nat) (ps : List (Int × Int)) : Prop :=
  ps.length = n ∧ (n = 0 ∨ ∃ b off, a = some ⟨b, off, none⟩ ∧ ∀ j, j < n → w.cell? ⟨b, off + j * 13, none⟩ = some (.int .i64 (ps.getD j (0, 0)).1) ∧ w.cell? ⟨b, off + j * 13 + 1, none⟩ = some (.int .i64 (ps.getD j (0, 0)).2))
theorem EP.keep {w w' : World} {a : Option Addr} {n : Nat} {l : List (Int × Int)} {m : Nat} (h : EP w a n l) (hm : w.heap.size ≤ m) (hb : Below m w w') : EP w' a n l := by
  refine ⟨h.1, ?_⟩
  rcases h.2 with h0 | ⟨b, off, e, hc⟩
  · exact .inl h0
  · refine .inr ⟨b, off, e, fun j hj => ?_⟩
    obtain ⟨h1, h2⟩ := hc j hj
    exact ⟨(hb.cell (Nat.lt_of_lt_of_le (cell_block_lt h1) hm)).trans h1, (hb.cell (Nat.lt_of_lt_of_le (cell_block_lt h2) hm)).trans h2⟩
theorem EP.at {w : World} {a : Option Addr} {n : Nat} {l : List (Int × Int)} (h : EP w a n l) {k : Nat} (hk : k < n) : ∃ b off, a = some ⟨b, off, none⟩ ∧ w.cell? ⟨b, off + k * 13, none⟩ = some (.int .i64 (l.getD k (0, 0)).1) ∧ w.cell? ⟨b, off + k * 13 + 1, none⟩ = some (.int .i64 (l.getD k (0, 0)).2) := by
  rcases h.2 with rfl | ⟨b, off, e, hc⟩
  · omega
  · exact ⟨b, off, e, (hc k hk).1, (hc k hk).2⟩
theorem made_any (b : Nat) (l : Lg) (w : World) (h : LB w b l) : Calls Try.prog 41 #[.pointer (some ⟨b, 0, none⟩)] w fun e w' => e = .returned (.bool l.is) ∧ w = w' := by
  have h6 := h.c6
  clear h
  go_enter Try.func41, Try.ntmps41
  go_wp2
  go_ret
  exact ⟨rfl, rfl⟩
theorem made_nil (w : World) : Calls Try.prog 41 #[.pointer none] w fun e w' => e = .returned (.bool false) ∧ w = w' := by
  go_enter Try.func41, Try.ntmps41
  go_wp2
  go_ret
  exact ⟨rfl, rfl⟩
open Go.Shelf in
theorem gives63 (Bl Bi b : Nat) (l : Lg) (ps : List (Int × Int)) (i : Int) (k : Nat) (W : World) (h1 : W.cell? ⟨Bl, 0, none⟩ = some (.pointer (some ⟨b, 0, none⟩))) (h2 : W.cell? ⟨Bi, 0, none⟩ = some (.int .i64 i)) (hb : LB W b l) (he : EP W l.a l.n ps) (hk : k < l.n) (hn : l.n ≤ 1000) :
    FnGives Try.prog 63 #[.pointer (some ⟨Bl, 0, none⟩), .pointer (some ⟨Bi, 0, none⟩)] #[.int .i64 (k : Int)] (.bool (decide (i ≤ (ps.getD k (0, 0)).1))) W := by
  show Calls Try.prog 63 #[.int .i64 (k : Int), .pointer (some ⟨Bl, 0, none⟩), .pointer (some ⟨Bi, 0, none⟩)] W _
  obtain ⟨bb, off, ea, hc, _⟩ := he.at hk
  have h3 := hb.c2
  rw [ea] at h3
  obtain ⟨ix, tm, a, n, c, com, app, sur, is⟩ := l
  dsimp only at *
  generalize (ps.getD k (0, 0)).1 = y at *
  clear he hb ea
  go_enter Try.func63, Try.ntmps63
  go_wp2_with fail
  go_quiet (fail)
  go_wp2
  go_ret
  exact ⟨rfl, nq, rfl⟩
/-- The place of the first entry whose index is not below i. -/
def atN (ps : List (Int × Int)) (i : Int) : Nat := (List.range ps.length).countP fun k => !decide (i ≤ (ps.getD k (0, 0)).1)
def upP (ps : List (Int × Int)) : Prop := ∀ a b, a ≤ b → b < ps.length → (ps.getD a (0, 0)).1 ≤ (ps.getD b (0, 0)).1
theorem last_nil (w : World) : Calls Try.prog 16 #[.pointer none] w fun e w' => e = .returned (.tuple #[.int .i64 0, .int .i64 0]) ∧ w = w' := by
  go_enter Try.func16, Try.ntmps16
  go_wp2_with (go_at_call 41; refine (made_nil _).mono ?_; rintro e w' ⟨rfl, rfl⟩)
  go_ret2
  exact ⟨rfl, rfl⟩
def lastP (l : Lg) (ps : List (Int × Int)) : Int × Int := if l.n = 0 then (l.ix, l.tm) else ps.getD (l.n - 1) (0, 0)
theorem last_any (b : Nat) (l : Lg) (ps : List (Int × Int)) (w : World) (h : LB w b l) (hi : l.is = true) (he : EP w l.a l.n ps) (hn : l.n ≤ 1000) : Calls Try.prog 16 #[.pointer (some ⟨b, 0, none⟩)] w fun e w' => e = .returned (.tuple #[.int .i64 (lastP l ps).1, .int .i64 (lastP l ps).2]) ∧ Below w.heap.size w w' := by
  have h0 := h.c0
  have h1 := h.c1
  have h2 := h.c2
  have HM := Lib.hid (made_any b l w h)
  have HP : Hid (lastP l ps = if l.n = 0 then (l.ix, l.tm) else ps.getD (l.n - 1) (0, 0)) := rfl
  generalize lastP l ps = q at *
  obtain ⟨q1, q2⟩ := q
  obtain ⟨ix, tm, a, n, c, com, app, sur, is⟩ := l
  dsimp only at *
  subst hi
  rcases Nat.eq_zero_or_pos n with rfl | hpos
  · have hq : (q1, q2) = (ix, tm) := HP.out
    cases hq
    clear h HP he
    go_enter Try.func16, Try.ntmps16
    go_wp2_with (go_at_call 41; refine HM.out.mono ?_; rintro e w' ⟨rfl, rfl⟩)
    go_quiet (fail)
    go_wp2
    go_ret2
    exact ⟨rfl, ⟨rfl, rfl, rfl, Nat.le_refl _, fun _ _ => rfl⟩⟩
  · obtain ⟨m, rfl⟩ : ∃ m, n = m + 1 := ⟨n - 1, by omega⟩
    have hq : (q1, q2) = ps.getD m (0, 0) := by
      have := HP.out
      rwa [if_neg (by omega), Nat.add_sub_cancel] at this
    obtain ⟨bb, off, rfl, hc, hd⟩ := he.at (show m < m + 1 by omega)
    rw [← hq] at hc hd
    dsimp only at hc hd
    have hlt : (0 : Int) < ((m + 1 : Nat) : Int) := by omega
    clear h HP he hq hpos
    go_enter Try.func16, Try.ntmps16
    go_wp2_with (go_at_call 41; refine HM.out.mono ?_; rintro e w' ⟨rfl, rfl⟩)
    go_quiet (fail)
    go_wp2
    go_ret2
    exact ⟨rfl, ⟨rfl, rfl, rfl, Nat.le_refl _, fun _ _ => rfl⟩⟩
end Go.Proofs.Ytbgfpmnicpmieaa
