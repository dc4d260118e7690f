/- A list without one, a list with one more: the code's. -/
import Derived.Test.YtedifbdjcebefaaGood
namespace Go.Proofs.Ytedifbdjcebefaa
open Go Go.RowKit Go.Shelf Go.Sort
set_option linter.unusedVariables false
set_option linter.unusedSimpArgs false
set_option maxRecDepth 100000
set_option maxHeartbeats 1000000
theorem clone_any (a : Option Addr) (n c : Nat) (l : List Int) (w : World) (hR : Rd w a n l) (hn : n ≤ 1000) :
    Calls Try.prog 38 #[.slice a n c] w fun e w' => ∃ v', e = .returned v' ∧ w'.ownsRow w.heap.size 3 1 v' n (l.map (Value.int .i64)) ∧ Below w.heap.size w w' := by
  have hl := hR.1
  cases a with
  | none =>
    have h0 : n = 0 := by
      rcases hR.2 with h | ⟨b, off, h, _⟩
      · exact h
      · cases h
    subst h0
    refine (Any.slices_Clone_int_nil Try.laysClone 0 c w).mono ?_
    rintro e w' ⟨rfl, rfl⟩
    have : l = [] := List.eq_nil_of_length_eq_zero hl
    subst this
    exact ⟨_, rfl, World.ownsRow_nil _ _ _ _, Below.refl _ _⟩
  | some p =>
    rcases Nat.eq_zero_or_pos n with rfl | hpos
    · refine (Any.slices_Clone_int_zero Try.laysClone p c w).mono ?_
      rintro e w' ⟨v', rfl, hrow, _, hb⟩
      have : l = [] := List.eq_nil_of_length_eq_zero hl
      subst this
      exact ⟨v', rfl, hrow, hb⟩
    · obtain ⟨b, off, e, hall⟩ := hR.all hpos
      cases e
      refine (Any.slices_Clone_int Try.laysClone b off n c l w (by omega) (by omega) (fun j hj => hall j (by omega))).mono ?_
      rintro e w' ⟨v', rfl, hrow, _, hb⟩
      rw [List.take_of_length_le (by omega)] at hrow
      exact ⟨v', rfl, hrow, hb⟩
theorem gives39 (x y : Int) (B : Nat) (W : World) (hc : W.cell? ⟨B, 0, none⟩ = some (.int .i64 x)) :
    FnGives Try.prog 39 #[.pointer (some ⟨B, 0, none⟩)] #[.int .i64 y] (.bool (y == x)) W := by
  show Calls Try.prog 39 #[.int .i64 y, .pointer (some ⟨B, 0, none⟩)] W _
  go_enter Try.func39, Try.ntmps39
  go_wp2
  all_goals (go_ret; exact ⟨by simp_all, 0, rfl⟩)
theorem over39 (x : Int) (B blk off size : Nat) (w : World) (hB : B < w.heap.size) (hne : B ≠ blk) (hcell : w.cell? ⟨B, 0, none⟩ = some (.int .i64 x)) :
    PredOver Try.prog 39 #[.pointer (some ⟨B, 0, none⟩)] (Value.int .i64) (fun y => y == x) blk off size w :=
  fun n os dk y _ => gives39 x y B _ (by
    unfold sortWorld
    rw [cell?_grow _ _ _ (by show B < (putRow _ _ _ _ _).heap.size; rw [size_putRow]; exact hB), cell?_putRow_other _ _ blk off _ _ (Or.inl hne)]
    exact hcell)
theorem below_putRow (w : World) (q blk off : Nat) (d : Array Int) (B : Nat) (h : B ≤ blk) : Below B w (putRow (Value.int .i64) (Sort.ahead w q) blk off d) :=
  ⟨rfl, rfl, rfl, by simp [size_putRow], fun k hk => by
    unfold putRow mapBlock
    show (Array.modify _ _ _)[k]? = _
    rw [Array.getElem?_modify, if_neg (by omega)]; rfl⟩
theorem idxf_none (fv : Value) (w : World) : Calls Try.prog 47 #[.slice none 0 0, fv] w fun e w' => e = .returned (.int .i64 (-1)) ∧ w' = w :=
  AnyE.slices_IndexFunc_empty (ρ := Try.laysDF_ren) { Try.laysDF with } none 0 fv w
theorem df_none (fv : Value) (w : World) : Calls Try.prog 37 #[.slice none 0 0, fv] w fun e w' => e = .returned (.slice none 0 0) ∧ w' = w := by
  go_enter Try.func37, Try.ntmps37
  go_wp2_with (go_at_call 47; refine (idxf_none fv _).mono ?_; rintro e w' ⟨rfl, rfl⟩)
  go_ret
  exact ⟨rfl, rfl⟩
theorem holds_own {w : World} {g n : Nat} {cur : Array Value} {l : List Int} (hg : w.heap[g]? = some (.cells cur 3)) (hn : n ≤ cur.size) (hl : l.length = n) (h5 : cur.toList.take n = l.map (Value.int .i64)) : Holds (Value.int .i64) w g 0 l.toArray := fun j hj => by
  have hj' : j < l.length := by simpa using hj
  constructor
  · rw [Nat.zero_add, cell_of_row w g j cur 3 _ hg]
    have e := congrArg (fun x : List Value => x[j]?) h5
    rw [List.getElem?_take_of_lt (by omega), List.getElem?_map, List.getElem?_eq_getElem hj'] at e
    rw [getElem!_pos l.toArray j hj]
    simpa using e
  · simp [World.frozen?, hg]
theorem holds_rd {w : World} {g : Nat} {l : List Int} {m : Nat} {d : Array Int} (h : Holds (Value.int .i64) w g 0 d) (hm : m ≤ d.size) (hl : d.toList.take m = l) : Rd w (some ⟨g, 0, none⟩) m l := by
  refine ⟨by rw [← hl]; simp; omega, .inr ⟨g, 0, rfl, fun j hj => ?_⟩⟩
  rw [(h j (by omega)).1, getElem!_pos d j (by omega), ← hl, List.getD_eq_getElem?_getD, List.getElem?_take_of_lt hj]
  simp [Array.getElem?_eq_getElem (show j < d.size by omega)]
theorem df_any (a : Option Addr) (n c : Nat) (l : List Int) (x : Int) (bx base : Nat) (w : World) (hrow : w.ownsRow base 3 1 (.slice a n c) n (l.map (Value.int .i64))) (hbx : bx < base) (hcell : w.cell? ⟨bx, 0, none⟩ = some (.int .i64 x)) (hn : n ≤ 1000) :
    Calls Try.prog 37 #[.slice a n c, .func (.func 39) #[] #[.pointer (some ⟨bx, 0, none⟩)]] w fun e w' => ∃ a' n' c', e = .returned (.slice a' n' c') ∧ Rd w' a' n' (woL l x) ∧ Below base w w' := by
  have hl : l.length = n := by have := hrow.1; simpa using this
  rcases hrow.2 with ⟨e, rfl⟩ | ⟨g, cap, cur, e, hb, hg, h2, h3, h4, h5⟩
  · cases e
    refine (df_none _ w).mono ?_
    rintro e w' ⟨rfl, rfl⟩
    have : l = [] := List.eq_nil_of_length_eq_zero hl
    subst this
    exact ⟨_, _, _, rfl, ⟨rfl, .inl rfl⟩, Below.refl _ _⟩
  · cases e
    have hH := holds_own hg (by omega) hl (by simpa using h5)
    have eg : ∀ args w, (callFunc 39 args).run Try.prog w = .ok (.enter 39 args) w := enters_of Try.func39 (by kernel_rfl) rfl
    have hgl : g < w.heap.size := (Array.getElem?_eq_some_iff.1 hg).1
    have hbl : bx < w.heap.size := by omega
    have hsz : l.toArray.size = n := by simpa using hl
    have key := AnyE.slices_DeleteFunc Try.laysDF (Value.int .i64) (fun _ => rfl) (fun y => y == x) 39 #[.pointer (some ⟨bx, 0, none⟩)] eg 0 Try.zeroValue3 g 0 c l.toArray w
      (fun W y hW => gives39 x y bx W ((hW.cell (p := ⟨bx, 0, none⟩) hbl).trans hcell)) (over39 x bx g 0 _ w hbl (by omega) hcell) hH (by rw [hsz]; omega) (by rw [hsz]; omega)
    rw [hsz] at key
    refine key.mono ?_
    rintro e w' ⟨rfl, q, rfl⟩
    have ew : (l.toArray.toList.filter fun y => !(y == x)) = woL l x := by simp [woL, bne]
    rw [ew]
    have hwl : (woL l x).length ≤ n := by rw [← hl]; exact woL_len l x
    have hs2 : ((woL l x) ++ List.replicate (n - (woL l x).length) 0).toArray.size = l.toArray.size := by simp; omega
    have hH2 := holds_putRow (Value.int .i64) (Sort.ahead w q) g 0 l.toArray ((woL l x) ++ List.replicate (n - (woL l x).length) 0).toArray (fun j hj => hH j hj) hs2
    exact ⟨_, _, _, rfl, holds_rd hH2 (by simp) (by simp), below_putRow _ _ _ _ _ _ hb⟩
theorem without_any (a : Option Addr) (n c : Nat) (l : List Int) (x : Int) (w : World) (hR : Rd w a n l) (hn : n ≤ 1000) :
    Calls Try.prog 23 #[.slice a n c, .int .i64 x] w fun e w' => ∃ a' n' c', e = .returned (.slice a' n' c') ∧ Rd w' a' n' (woL l x) ∧ Below w.heap.size w w' := by
  have L1 : Hid (Below w.heap.size w (w.alloc (.cells #[.int .i64 x] 3))) := (Below.refl _ w).alloc (by simp) _
  have R1 := Lib.hid (hR.keep (Nat.le_refl _) L1.out)
  have hc : (w.alloc (.cells #[.int .i64 x] 3)).cell? ⟨w.heap.size, 0, none⟩ = some (.int .i64 x) := by simp
  have HC := Lib.hid hc
  clear hR hc
  go_enter Try.func23, Try.ntmps23
  go_wp2_with fail
  refine (clone_any a n c l _ R1.out hn).mono ?_
  rintro e w1 ⟨v', rfl, hrow, hb⟩
  obtain ⟨a', c', rfl⟩ := own_sl hrow
  have HC1 := Lib.hid ((hb.cell (p := ⟨w.heap.size, 0, none⟩) (by simp)).trans HC.out)
  have HB := Lib.hid (L1.out.trans (hb.mono (by simp)))
  rw [show (w.alloc (.cells #[.int .i64 x] 3)).heap.size = w.heap.size + 1 by simp] at hrow
  have HR := Lib.hid hrow
  clear hb hrow
  go_wp2_with fail
  refine (df_any a' n c' l x w.heap.size (w.heap.size + 1) _ HR.out (by omega) HC1.out hn).mono ?_
  rintro e w2 ⟨a2, n2, c2, rfl, hRd, hb2⟩
  have HB2 := Lib.hid (HB.out.trans (hb2.mono (by omega)))
  have HD := Lib.hid hRd
  clear hb2 hRd
  go_wp2_with fail
  go_ret
  exact ⟨_, _, _, rfl, HD.out, HB2.out⟩
end Go.Proofs.Ytedifbdjcebefaa
