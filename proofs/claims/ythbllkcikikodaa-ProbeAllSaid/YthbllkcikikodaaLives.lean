/- The walk of corbellaw04.lives, over this seat's program. -/
import Derived.Test.YthbllkcikikodaaAt
namespace Go.Proofs.Ythbllkcikikodaa
open Go Go.RowKit Go.Shelf
set_option linter.unusedVariables false
set_option linter.unusedSimpArgs false

theorem own_reads {w : World} {base : Nat} {v : Value} {n : Nat} {xs : List Int} (h : w.ownsRow base 3 1 v n (xs.map (Value.int .i64))) : ∃ A c, v = .slice A xs.length c ∧ n = xs.length ∧ Reads w A xs ∧ (∀ g, A = some ⟨g, 0, none⟩ → g < w.heap.size) := by
  have hl : xs.length = n := by simpa using h.1
  subst hl
  rcases h.2 with ⟨rfl, h0⟩ | ⟨g, cap, cur, rfl, hb, hg, h1, h2, h3, h4⟩
  · exact ⟨none, 0, by rw [h0], rfl, fun j hj => by omega, fun g e => by cases e⟩
  · refine ⟨_, cap, rfl, rfl, fun j hj => ⟨g, rfl, ?_⟩, fun g' e => by cases e; exact (Array.getElem?_eq_some_iff.1 hg).1⟩
    have hc := h.cells (g := g) rfl j (.int .i64 (xs.getD j 0)) (by simp [hj, List.getD_eq_getElem?_getD])
    have e : (⟨g, 0, none⟩ : Addr).add j = ⟨g, j, none⟩ := by unfold Addr.add; split <;> simp_all
    rwa [e] at hc

theorem own_cap {w : World} {base : Nat} {A : Option Addr} {n m c : Nat} {xs : List Value} (h : w.ownsRow base 3 1 (.slice A m c) n xs) : m ≤ c := by
  rcases h.2 with ⟨h1, h0⟩ | ⟨g, cap, cur, h1, hb, hg, h2, h3, h4⟩
  · cases h1; omega
  · cases h1; exact h2

theorem Reads.below {w w' : World} {A : Option Addr} {xs : List Int} (h : Reads w A xs) (hlt : ∀ g, A = some ⟨g, 0, none⟩ → g < w.heap.size) (hb : Below w.heap.size w w') : Reads w' A xs := by
  intro j hj
  obtain ⟨g, rfl, hc⟩ := h j hj
  exact ⟨g, rfl, (hb.cell (p := ⟨g, j, none⟩) (hlt g rfl)).trans hc⟩

theorem Reads.take {w : World} {A : Option Addr} {xs : List Int} (h : Reads w A xs) (k : Nat) : Reads w A (xs.take k) := by
  intro j hj
  simp at hj
  obtain ⟨g, e, hc⟩ := h j (by omega)
  refine ⟨g, e, ?_⟩
  rw [hc]
  have hk : j < k := by omega
  simp [List.getD_eq_getElem?_getD, List.getElem?_take, hk]
theorem below_drewN' {w : World} (m : Nat) : Below w.heap.size w (w.drewN m) := ⟨rfl, rfl, rfl, Nat.le_refl _, fun _ _ => rfl⟩

theorem seq_5_4 : gatherL 5 4 (-1) = [1, 2, 0, 3] := by decide +kernel
theorem need_8 : needF 8 = 2 := by decide +kernel

set_option maxRecDepth 100000 in
set_option maxHeartbeats 2000000 in
theorem lives_any (w : World) : Calls Try.prog 13 #[] w (fun e w' => e = .returned (.bool true) ∧ Below w.heap.size w w') := by
  have h54 := Lib.hid seq_5_4
  have h8 := Lib.hid need_8
  go_enter Try.func13, Try.ntmps13
  go_wp2_with (fail)
  refine (gather_any 5 4 (-1) (by omega) (by omega) _).mono ?_
  rintro e w1 ⟨v, rfl, hown, hB⟩
  rw [h54.out] at hown
  obtain ⟨A, c, rfl, -, hR, hlt⟩ := own_reads hown
  clear hown
  go_wp2_with (fail)
  refine (ints_any A (some ⟨w1.heap.size, 0, none⟩) c 4 [1, 2, 0, 3] [1, 2, 0, 3] _ (by simp) (hR.below hlt ((Below.refl _ _).alloc (Nat.le_refl _) _)) ?_).mono ?_
  · intro j hj
    refine ⟨_, rfl, ?_⟩
    have hn := World.alloc_heap_new w1 (Obj.cells #[Value.int IntKind.i64 1, Value.int IntKind.i64 2, Value.int IntKind.i64 0, Value.int IntKind.i64 3] 3)
    match j, hj with
    | 0, _ | 1, _ | 2, _ | 3, _ => simp only [World.cell?, hn]; rfl
  rintro e w2 ⟨rfl, m, rfl⟩
  go_wp2_with (go_at_call 14; refine (need_any _ _).mono ?_; rintro e w' ⟨rfl, rfl⟩; rw [h8.out])
  go_ret
  exact ⟨rfl, (hB.alloc hB.size _).trans ⟨rfl, rfl, rfl, Nat.le_refl _, fun _ _ => rfl⟩⟩
theorem shl_good {a : Int} (h : 0 ≤ a) : ∃ m : Nat, wrap64 (2 ^ (a % 11).toNat) = (m : Int) ∧ goodB (m : Int) = true ∧ 1 ≤ m ∧ m ≤ 1024 := by
  have hk : (a % 11).toNat ≤ 10 := by omega
  generalize (a % 11).toNat = k at *
  have h1 : 2 ^ k ≤ 2 ^ 10 := Nat.pow_le_pow_right (by decide) hk
  have h2 : 1 ≤ 2 ^ k := Nat.one_le_two_pow
  refine ⟨2 ^ k, ?_, goodB_pow ⟨k, by omega⟩, h2, h1⟩
  have h3 : (2 : Int) ^ k = ((2 ^ k : Nat) : Int) := by simp
  rw [h3, IntWalk.wrap64_in _ (by omega)]
theorem moves_step (h m k : Nat) : (((el h ((m : Nat) : Int).toNat k : Nat) : Int) + (k : Int) + 1) % (m : Int) = ((el h ((m : Nat) : Int).toNat (k + 1) : Nat) : Int) := by
  simp only [Int.toNat_natCast]
  rw [el_pre h m (k + 1), pre_succ]
  have : ((el h m k : Nat) : Int) + (k : Int) + 1 = ((el h m k + (k + 1) : Nat) : Int) := by omega
  rw [this]; simp
/-- A block that is known whole. -/
def Block (w : World) (g : Nat) (xs : List Int) : Prop := w.heap[g]? = some (.cells (xs.map (Value.int .i64)).toArray 3 (0, 0))
theorem Block.cell {w : World} {g : Nat} {xs : List Int} (h : Block w g xs) (j : Nat) (hj : j < xs.length) : w.cell? ⟨g, j, none⟩ = some (.int .i64 (xs.getD j 0)) := by
  rw [cell_of_row w g j _ _ _ h]; simp [hj, List.getD_eq_getElem?_getD]
theorem Block.frozen {w : World} {g : Nat} {xs : List Int} (h : Block w g xs) (j : Nat) : w.frozen? ⟨g, j, none⟩ = false := by simp [World.frozen?, show w.heap[g]? = _ from h]
theorem Block.set {w : World} {g : Nat} {xs : List Int} (h : Block w g xs) (j : Nat) (x : Int) : Block (w.setCell ⟨g, j, none⟩ (.int .i64 x)) g (xs.set j x) := by
  obtain ⟨hlt, hk⟩ := Array.getElem?_eq_some_iff.1 h
  show (w.heap.modify g _)[g]? = _
  rw [Array.getElem?_eq_getElem (by rw [Array.size_modify]; exact hlt), Array.getElem_modify_self, hk]
  simp
theorem Block.below {w w' : World} {g : Nat} {xs : List Int} (h : Block w g xs) (hb : Below w.heap.size w w') : Block w' g xs := (hb.block g (Array.getElem?_eq_some_iff.1 h).1).trans h
theorem Block.lt {w : World} {g : Nat} {xs : List Int} (h : Block w g xs) : g < w.heap.size := (Array.getElem?_eq_some_iff.1 h).1
theorem own_block {w : World} {base g n : Nat} {c : Array Value} (h : w.ownsRow base 3 1 (.slice (some ⟨g, 0, none⟩) n n) n c.toList) : w.heap[g]? = some (.cells c 3 (0, 0)) := by
  rcases h.2 with ⟨h1, _⟩ | ⟨g', cap, cur, h1, hb, hg, h2, h3, h4, h5⟩
  · cases h1
  · cases h1
    have e : cur = c := by
      apply Array.ext'
      rw [← h5, List.take_of_length_le]
      simp; omega
    rw [← e]; exact hg
theorem own_base {w : World} {base : Nat} {A : Option Addr} {n m c : Nat} {xs : List Value} (h : w.ownsRow base 3 1 (.slice A m c) n xs) : ∀ g, A = some ⟨g, 0, none⟩ → base ≤ g := by
  intro g e
  subst e
  exact own_blk h rfl
end Go.Proofs.Ythbllkcikikodaa
