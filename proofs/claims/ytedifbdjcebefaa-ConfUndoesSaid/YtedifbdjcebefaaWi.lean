/- A list with one more: the code's. -/
import Derived.Test.YtedifbdjcebefaaWo
import Derived.Deep.MidRow
namespace Go.Proofs.Ytedifbdjcebefaa
open Go Go.RowKit Go.Shelf Go.Sort
set_option linter.unusedVariables false
set_option linter.unusedSimpArgs false
set_option maxRecDepth 100000
set_option maxHeartbeats 1000000
theorem below_sc {B g : Nat} (hg : B ≤ g) : ∀ (vs : List Value) (o : Nat) (w : World), Below B w (w.setCells g o vs)
  | [], _, w => Below.refl B w
  | v :: r, o, w => ((Below.refl B w).setCell (p := ⟨g, o, none⟩) hg v).trans (below_sc hg r (o + 1) _)
theorem rd_range {w : World} {g n : Nat} {l : List Int} (hl : l.length = n) (h : w.rangeAt g 0 (l.map (Value.int .i64))) : Rd w (some ⟨g, 0, none⟩) n l :=
  ⟨hl, .inr ⟨g, 0, rfl, fun j hj => h j _ (by
    rw [List.getElem?_map, List.getElem?_eq_getElem (by omega), List.getD_eq_getElem?_getD, List.getElem?_eq_getElem (by omega)]; rfl)⟩⟩
theorem range_app {w : World} {g o : Nat} {xs ys : List Value} (h1 : w.rangeAt g o xs) (h2 : w.rangeAt g (o + xs.length) ys) : w.rangeAt g o (xs ++ ys) := fun j v hv => by
  rcases Nat.lt_or_ge j xs.length with h | h
  · rw [List.getElem?_append_left h] at hv; exact h1 j v hv
  · rw [List.getElem?_append_right h] at hv
    have := h2 (j - xs.length) v hv
    rwa [show o + xs.length + (j - xs.length) = o + j by omega] at this
theorem range_new (w : World) (cur : Array Value) (vs : List Value) (o : Nat) (h : ∀ j v, vs[j]? = some v → cur[o + j]? = some v) : (w.alloc (.cells cur 3)).rangeAt w.heap.size o vs := fun j v hv => by
  rw [cell_of_row _ _ _ cur 3 _ (heap_alloc_new w _)]; exact h j v hv
def inL (l : List Int) (i : Nat) (x : Int) : List Int := l.take i ++ ([x] ++ l.drop i)
theorem inL_len (l : List Int) (i : Nat) (x : Int) (h : i ≤ l.length) : (inL l i x).length = l.length + 1 := by simp [inL]; omega
theorem ins_any (a : Option Addr) (n c : Nat) (l : List Int) (x : Int) (i base : Nat) (w : World) (hrow : w.ownsRow base 3 1 (.slice a n c) n (l.map (Value.int .i64))) (hi : i ≤ n) (hbase : base ≤ w.heap.size) (hn : n ≤ 1000) :
    Calls Try.prog 41 #[.slice a n c, .int .i64 (i : Int), .slice (some ⟨w.heap.size, 0, none⟩) 1 1] (w.alloc (.cells #[.int .i64 x] 3)) fun e w' => ∃ a' n' c', e = .returned (.slice a' n' c') ∧ Rd w' a' n' (inL l i x) ∧ Below base w w' := by
  have hl : l.length = n := by have := hrow.1; simpa using this
  have hB0 : Below base w (w.alloc (.cells #[.int .i64 x] 3)) := (Below.refl _ _).alloc hbase _
  have hvs : ∀ j v, ([Value.int .i64 x] : List Value)[j]? = some v → (w.alloc (.cells #[.int .i64 x] 3)).cell? ⟨w.heap.size, 0 + j, none⟩ = some v := range_new w _ _ 0 (fun j v hv => by
    cases j with
    | zero => simpa using hv
    | succ j => simp at hv)
  have h1v : ∀ v ∈ ([Value.int .i64 x] : List Value), v.oneCell' = true := by intro v hv; simp at hv; subst hv; rfl
  have hmap : inL l i x = l.take i ++ ([x] ++ l.drop i) := rfl
  have hlen := inL_len l i x (by omega)
  have h1c : ∀ v ∈ l.map (Value.int .i64), v.oneCell' = true := by intro v hv; obtain ⟨y, _, rfl⟩ := List.mem_map.1 hv; rfl
  have hshape : (w.alloc (.cells #[.int .i64 x] 3)).shape? w.heap.size = some (3, 1) := by simp only [World.shape?, heap_alloc_new]; rfl
  have hfr : ∀ j, (w.alloc (.cells #[.int .i64 x] 3)).frozen? ⟨w.heap.size, j, none⟩ = false := by intro j; simp only [World.frozen?, heap_alloc_new]; simp
  rcases hrow.2 with ⟨e, rfl⟩ | ⟨g, cap, cur, e, hb, hg, h2, h3, h4, h5⟩
  · cases e
    obtain rfl : i = 0 := by omega
    have hl0 : l = [] := List.eq_nil_of_length_eq_zero hl
    subst hl0
    refine (Any2.slices_Insert_int_end_grow Try.laysInsert none 0 0 w.heap.size 0 1 1 [] [.int .i64 x] _ (by omega) (by omega) (by omega) (by omega) rfl rfl (fun _ => rfl) (fun a ha => by cases ha) hvs h1v).mono ?_
    rintro e w' ⟨rfl, rfl⟩
    refine ⟨_, _, _, rfl, rd_range hlen (range_new _ _ _ 0 ?_), (hB0.drew).alloc (by simp; omega) _⟩
    intro j v hv
    cases j with
    | zero =>
      rw [Nat.zero_add, Array.getElem?_append_left (by simp)]
      simpa [inL] using hv
    | succ j => simp [inL] at hv
  · cases e
    have hgl : g < w.heap.size := (Array.getElem?_eq_some_iff.1 hg).1
    have hg' : (w.alloc (.cells #[.int .i64 x] 3)).heap[g]? = some (.cells cur 3) := by rw [Below.heap_alloc _ _ _ hgl]; exact hg
    have h5' : cur.toList.take n = l.map (Value.int .i64) := by simpa using h5
    have hR : (w.alloc (.cells #[.int .i64 x] 3)).rangeAt g 0 (l.map (Value.int .i64)) := fun j v hv => by
      rw [Nat.zero_add, cell_of_row _ g j cur 3 _ hg']
      rw [← h5'] at hv
      have hj : j < n := by
        have := (List.getElem?_eq_some_iff.1 hv).1
        simp at this; omega
      rw [List.getElem?_take_of_lt hj] at hv
      simpa using hv
    have hT : ∀ j, j < c → ((w.alloc (.cells #[.int .i64 x] 3)).cell? ⟨g, 0 + j, none⟩).isSome = true := fun j hj => by
      rw [Nat.zero_add, cell_of_row _ g j cur 3 _ hg', Array.getElem?_eq_getElem (by omega)]; rfl
    have hF : ∀ j, (w.alloc (.cells #[.int .i64 x] 3)).frozen? ⟨g, j, none⟩ = false := fun j => by simp only [World.frozen?, hg']; rfl
    have hs2 : (w.alloc (.cells #[.int .i64 x] 3)).shape? g = some (3, c) := by simp only [World.shape?, hg']; simp; omega
    by_cases hend : i = n
    · subst hend
      have hin : inL l i x = l ++ [x] := by rw [hmap, List.take_of_length_le (by omega), List.drop_eq_nil_of_le (by omega)]; rfl
      by_cases hroom : i + 1 ≤ c
      · refine (Any2.slices_Insert_int_end_room Try.laysInsert g 0 i c w.heap.size 0 1 1 [.int .i64 x] _ (by omega) hroom (by simp only [maxLen] at h3; omega) rfl (fun j hj => by rw [show 0 + i + j = 0 + (i + j) by omega]; exact hT _ (by omega)) (fun j _ => hF _) hvs h1v).mono ?_
        rintro e w' ⟨rfl, rfl⟩
        refine ⟨_, _, _, rfl, rd_range (by rw [hlen]; omega) ?_, hB0.trans (below_sc hb _ _ _)⟩
        rw [hin, List.map_append]
        refine range_app (World.rangeAt_setCells_apart hR _ _ _ (.inr (.inl (by simp; omega)))) ?_
        rw [List.length_map, hl]
        exact World.rangeAt_setCells_same _ _ _ _ (fun j hj => ⟨by rw [show 0 + i + j = 0 + (i + j) by omega]; exact hT _ (by simp at hj; omega), hF _⟩)
      · refine (Any2.slices_Insert_int_end_grow Try.laysInsert (some ⟨g, 0, none⟩) i c w.heap.size 0 1 1 (l.map (Value.int .i64)) [.int .i64 x] _ (by omega) h2 (by omega) (by omega) (by simpa using hl) rfl (fun h => by cases h) (fun a ha j v hv => by
          cases ha
          have := hR j v hv
          rw [Addr.add_lit]; exact this) hvs h1v).mono ?_
        rintro e w' ⟨rfl, rfl⟩
        refine ⟨_, _, _, rfl, rd_range (by rw [hlen]; omega) (range_new _ _ _ 0 ?_), (hB0.drew).alloc (by simp; omega) _⟩
        intro j v hv
        rw [hin, List.map_append] at hv
        rw [Nat.zero_add, Array.getElem?_append_left (by have := (List.getElem?_eq_some_iff.1 hv).1; simpa using this)]
        simpa using hv
    · have hlt : i < n := by omega
      by_cases hroom : n + 1 ≤ c
      · refine (Any2.slices_Insert_int_shift Try.laysInsert g 0 n c i w.heap.size 0 1 1 (l.map (Value.int .i64)) [.int .i64 x] _ hlt (by omega) hroom (by simp only [maxLen] at h3; omega) (by omega) (by simpa using hl) rfl hR (fun j hj => hT j (by omega)) (fun j _ => hF _) hvs h1c h1v 3 3 1 c hshape hs2 (by omega) (hfr _) (hfr _)).mono ?_
        rintro e w' ⟨rfl, rfl⟩
        have hT2 : ∀ j, j < c → ((w.alloc (.cells #[.int .i64 x] 3)).drew.cell? ⟨g, 0 + j, none⟩).isSome = true := hT
        refine ⟨_, _, _, rfl, rd_range (by rw [hlen]; omega) ?_, ((hB0.drew).trans (below_sc hb _ _ _)).trans (below_sc hb _ _ _)⟩
        rw [hmap, List.map_append, List.map_append]
        have hR1 : ((w.alloc (.cells #[.int .i64 x] 3)).drew).rangeAt g 0 ((l.take i).map (Value.int .i64)) := fun j v hv => by
          rw [List.map_take] at hv
          have hj : j < i := by have := (List.getElem?_eq_some_iff.1 hv).1; simp at this; omega
          rw [List.getElem?_take_of_lt hj] at hv
          exact hR j v hv
        have hlt1 : ((l.take i).map (Value.int .i64)).length = i := by simp; omega
        have hT3 : ∀ (o m : Nat), o + m ≤ c → ((w.alloc (.cells #[.int .i64 x] 3)).drew).there g o m := fun o m hm j hj => ⟨by have := hT2 (o + j) (by omega); rwa [Nat.zero_add] at this, hF _⟩
        have hdl : ((l.map (Value.int .i64)).drop i).length = n - i := by simp; omega
        refine range_app ?_ (range_app ?_ ?_)
        · refine World.rangeAt_setCells_apart (World.rangeAt_setCells_apart hR1 _ _ _ (.inr (.inl (by rw [hlt1]; omega)))) _ _ _ (.inr (.inl (by rw [hlt1]; omega)))
        · rw [hlt1]
          exact World.rangeAt_setCells_same _ _ _ _ (World.there_setCells (hT3 (0 + i) 1 (by omega)) _ _ _)
        · rw [hlt1, List.map_drop]
          exact World.rangeAt_setCells_apart (World.rangeAt_setCells_same _ _ _ _ (hT3 _ _ (by rw [hdl]; omega))) _ _ _ (.inr (.inr (by simp)))
      · refine (Any2.slices_Insert_int_grow Try.laysInsert g 0 n c i w.heap.size 0 1 1 (l.map (Value.int .i64)) [.int .i64 x] _ hlt (by omega) h2 (by omega) (by omega) (by simpa using hl) rfl hR hvs h1c h1v).mono ?_
        rintro e w' ⟨rfl, rfl⟩
        have hsz1 : (w.alloc (.cells #[.int .i64 x] 3)).heap.size = w.heap.size + 1 := by simp
        have hlt1 : ((l.take i).map (Value.int .i64)).length = i := by simp; omega
        have hdl : ((l.map (Value.int .i64)).drop i).length = n - i := by simp; omega
        generalize hw1 : w.alloc (.cells #[.int .i64 x] 3) = w1 at *
        generalize hgc : grownCap w1 (n + 1) c (Try.laysInsert_ren.t 3) - (n + 1) = gc
        have hb2 : base ≤ w1.heap.size := by omega
        have hzc : ∀ m, (Builtin.zeroCells (Value.int .i64 0).cells m).size = m := by intro m; simp [Builtin.zeroCells, Value.cells]
        refine ⟨_, _, _, rfl, rd_range (by rw [hlen]; omega) ?_, ((((hB0.alloc hb2 _).drew).trans (below_sc hb2 _ _ _)).drew).trans (below_sc hb2 _ _ _)⟩
        rw [hmap, List.map_append, List.map_append]
        have hT3 : ∀ (o m : Nat), o + m ≤ n + 1 → ((w1.alloc (.cells (((l.map (Value.int .i64)).take i).toArray ++ Builtin.zeroCells (Value.int .i64 0).cells (n + 1 - i) ++ Builtin.zeroCells (Value.int .i64 0).cells gc) 3)).drew).there w1.heap.size o m := fun o m hm j hj => by
          constructor
          · rw [World.cell?_drew, cell_of_row _ _ _ _ 3 _ (heap_alloc_new w1 _), Array.getElem?_eq_getElem (by simp only [Array.size_append, hzc, List.size_toArray, List.length_take, List.length_map]; omega)]; rfl
          · show World.frozen? (w1.alloc _) _ = false
            simp only [World.frozen?, heap_alloc_new]; simp
        have hR1 : ((w1.alloc (.cells (((l.map (Value.int .i64)).take i).toArray ++ Builtin.zeroCells (Value.int .i64 0).cells (n + 1 - i) ++ Builtin.zeroCells (Value.int .i64 0).cells gc) 3)).drew).rangeAt w1.heap.size 0 ((l.take i).map (Value.int .i64)) := by
          rw [World.rangeAt_drew]
          refine range_new _ _ _ _ fun j v hv => ?_
          have hj : j < i := by have := (List.getElem?_eq_some_iff.1 hv).1; rwa [hlt1] at this
          rw [Nat.zero_add, Array.append_assoc, Array.getElem?_append_left (by simp; omega)]
          rw [List.map_take] at hv
          simpa using hv
        refine range_app ?_ (range_app ?_ ?_)
        · refine World.rangeAt_setCells_apart ?_ _ _ _ (.inr (.inl (by rw [hlt1]; omega)))
          rw [World.rangeAt_drew]
          exact World.rangeAt_setCells_apart hR1 _ _ _ (.inr (.inl (by rw [hlt1]; omega)))
        · rw [hlt1]
          refine World.rangeAt_setCells_apart ?_ _ _ _ (.inr (.inl (by simp)))
          rw [World.rangeAt_drew, Nat.zero_add]
          exact World.rangeAt_setCells_same _ _ _ _ (hT3 i 1 (by omega))
        · rw [hlt1, List.map_drop]
          have h0 : 0 + i + [Value.int .i64 x].length = i + 1 := by simp
          show World.rangeAt _ _ (0 + i + [Value.int .i64 x].length) _
          rw [h0]
          refine World.rangeAt_setCells_same _ _ _ _ ?_
          rw [World.there_drew]
          exact World.there_setCells (hT3 _ _ (by rw [hdl]; omega)) _ _ _
theorem bin_empty (a : Option Addr) (c : Nat) (x : Int) (w : World) : Calls Try.prog 40 #[.slice a 0 c, .int .i64 x] w fun e w' => e = .returned (.tuple #[.int .i64 0, .bool false]) ∧ w' = w := by
  go_enter Try.func40, Try.ntmps40
  go_wp2_with fail
  go_loopg [7, 8] 0 (fun _ s7 s8 wr => s7 = .int .i64 0 ∧ s8 = .int .i64 0 ∧ wr = w)
  case atStart => exact ⟨rfl, rfl, rfl⟩
  case round =>
    obtain ⟨rfl, rfl, rfl⟩ := hrel
    go_wp2
    go_ret2
    exact ⟨rfl, rfl⟩
theorem bin_any (a : Option Addr) (n c : Nat) (l : List Int) (x : Int) (w : World) (hR : Rd w a n l) (hn : n ≤ 1000) (hs : l.Pairwise (· ≤ ·)) : Calls Try.prog 40 #[.slice a n c, .int .i64 x] w fun e w' => (∃ q, e = .returned (.tuple #[.int .i64 (l.countP (· < x) : Nat), .bool q])) ∧ Below w.heap.size w w' := by
  have hl := hR.1
  rcases Nat.eq_zero_or_pos n with rfl | hpos
  · refine (bin_empty a c x w).mono ?_
    rintro e w' ⟨rfl, rfl⟩
    have hl0 : l = [] := List.eq_nil_of_length_eq_zero hl
    subst hl0
    exact ⟨⟨_, rfl⟩, Below.refl _ _⟩
  · obtain ⟨b, off, rfl, hall⟩ := hR.all hpos
    have ht : l.take n = l := List.take_of_length_le (by omega)
    refine (AnyG.slices_BinarySearch_int Try.laysBin b off n c l x w (by omega) (by omega) (fun j hj => hall j (by omega)) (by rw [ht]; exact hs)).mono ?_
    rintro e w' ⟨rfl, q, rfl⟩
    rw [ht]
    exact ⟨⟨_, rfl⟩, below_drewN' (Below.refl _ _) q⟩
theorem with_any (a : Option Addr) (n c : Nat) (l : List Int) (x : Int) (w : World) (hR : Rd w a n l) (hn : n ≤ 1000) (hs : l.Pairwise (· ≤ ·)) :
    Calls Try.prog 24 #[.slice a n c, .int .i64 x] w fun e w' => ∃ a' n' c', e = .returned (.slice a' n' c') ∧ Rd w' a' n' (inL l (l.countP (· < x)) x) ∧ Below w.heap.size w w' := by
  have hl := hR.1
  have hc : l.countP (· < x) ≤ n := by rw [← hl]; exact List.countP_le_length
  have HR := Lib.hid hR
  have HS := Lib.hid hs
  clear hR hs hl
  obtain ⟨i, hi⟩ : ∃ i, i = l.countP (· < x) := ⟨_, rfl⟩
  have HI := Lib.hid hi
  rw [← hi] at hc ⊢
  clear hi
  go_enter Try.func24, Try.ntmps24
  go_wp2_with fail
  refine (bin_any a n c l x _ HR.out hn HS.out).mono ?_
  rintro e w1 ⟨⟨q, rfl⟩, hb⟩
  rw [← HI.out]
  have HB := Lib.hid hb
  have R1 := Lib.hid (HR.out.keep (Nat.le_refl _) hb)
  clear hb
  go_wp2_with fail
  refine (clone_any a n c l _ R1.out hn).mono ?_
  rintro e w2 ⟨v', rfl, hrow, hb⟩
  obtain ⟨a', c', rfl⟩ := own_sl hrow
  have HB2 := Lib.hid (HB.out.trans (hb.mono HB.out.size))
  have HZ := Lib.hid hb.size
  have HW := Lib.hid hrow
  clear hb hrow
  go_wp2_with fail
  refine (ins_any a' n c' l x i w1.heap.size w2 HW.out hc HZ.out hn).mono ?_
  rintro e w3 ⟨a3, n3, c3, rfl, hRd, hb3⟩
  have HB3 := Lib.hid (HB2.out.trans (hb3.mono HB.out.size))
  have HD := Lib.hid hRd
  clear hb3 hRd
  go_wp2_with fail
  go_ret
  exact ⟨_, _, _, rfl, HD.out, HB3.out⟩
end Go.Proofs.Ytedifbdjcebefaa
