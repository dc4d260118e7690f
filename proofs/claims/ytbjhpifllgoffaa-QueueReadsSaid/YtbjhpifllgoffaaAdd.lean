/- Reads that wait: Add. -/
import Derived.Test.YtbjhpifllgoffaaReads
namespace Go.Proofs.Ytbjhpifllgoffaa
open Go Go.RowKit Go.Maps
set_option linter.unusedVariables false
set_option linter.unusedSimpArgs false
set_option maxRecDepth 100000
set_option maxHeartbeats 1000000
/-- A read that waits: id, index, round. -/
abbrev Wt := Int × Int × Int
def wc (t : Wt) : List Value := [.int .i64 t.1, .int .i64 t.2.1, .int .i64 t.2.2]
def wcs (l : List Wt) : List Value := l.flatMap wc
theorem wcs_len (l : List Wt) : (wcs l).length = l.length * 3 := by
  unfold wcs
  induction l with
  | nil => rfl
  | cons x l ih => rw [List.flatMap_cons, List.length_append, ih, List.length_cons]; simp [wc]; omega
theorem wcs_snoc (l : List Wt) (t : Wt) : wcs (l ++ [t]) = wcs l ++ wc t := by simp [wcs]
theorem wcs_at (l : List Wt) (k j : Nat) (hk : k < l.length) (hj : j < 3) : (wcs l)[k * 3 + j]? = (wc (l.getD k (0, 0, 0)))[j]? := by
  induction l generalizing k with
  | nil => simp at hk
  | cons x l ih =>
    unfold wcs
    rw [List.flatMap_cons]
    cases k with
    | zero => rw [List.getElem?_append_left (by simp [wc]; omega)]; simp
    | succ k =>
      rw [List.getElem?_append_right (by simp [wc]; omega)]
      have := ih k (by simpa using hk)
      have e : (k + 1) * 3 + j - (wc x).length = k * 3 + j := by simp [wc]; omega
      rw [e]
      simpa [wcs] using this
theorem info76 : (Try.prog.info? 76).map (fun i => (i.zero, i.size, i.bytes)) = some (some (.agg #[.int .i64 0, .int .i64 0, .int .i64 0]), 3, 24) := by kernel_rfl
theorem add_full (b mb n c : Nat) (a : Option Addr) (id ix rd : Int) (w : World) (hb : w.heap[b]? = some (.cells #[.slice a n c, .map (some mb)] 69 (0, 0))) (hn : 1000 ≤ n) (hn2 : n ≤ 100000) :
    Calls Try.prog 14 #[.pointer (some ⟨b, 0, none⟩), .int .i64 id, .int .i64 ix, .int .i64 rd] w fun e w' => e = .returned (.bool false) ∧ w = w' := by
  have c0 : w.cell? ⟨b, 0, none⟩ = some (.slice a n c) := by simp [World.cell?, hb]
  have c1 : w.cell? ⟨b, 1, none⟩ = some (.map (some mb)) := by simp [World.cell?, hb]
  have HB := Lib.hid hb
  clear hb
  have h1 : (1000 : Int) ≤ n := by omega
  go_enter Try.func14, Try.ntmps14
  go_wp2_with (go_at_call 30; refine (rmade_any b mb _ c1).mono ?_; rintro e w2 ⟨rfl, rfl⟩)
  go_ret
  exact ⟨rfl, rfl⟩
theorem add_less (b mb n c g off : Nat) (id ix rd x : Int) (w : World) (hb : w.heap[b]? = some (.cells #[.slice (some ⟨g, off, none⟩) n c, .map (some mb)] 69 (0, 0))) (hn : n < 1000) (h0 : 0 < n) (hx : w.cell? ⟨g, off + (n - 1) * 3 + 2, none⟩ = some (.int .i64 x)) (hr : rd < x) :
    Calls Try.prog 14 #[.pointer (some ⟨b, 0, none⟩), .int .i64 id, .int .i64 ix, .int .i64 rd] w fun e w' => e = .returned (.bool false) ∧ w = w' := by
  have c0 : w.cell? ⟨b, 0, none⟩ = some (.slice (some ⟨g, off, none⟩) n c) := by simp [World.cell?, hb]
  have c1 : w.cell? ⟨b, 1, none⟩ = some (.map (some mb)) := by simp [World.cell?, hb]
  have HB := Lib.hid hb
  clear hb
  obtain ⟨q, rfl⟩ : ∃ q, n = q + 1 := ⟨n - 1, by omega⟩
  rw [Nat.add_sub_cancel] at hx
  have h1 : ¬ (1000 : Int) ≤ ((q + 1 : Nat) : Int) := by omega
  have h2 : ((q + 1 : Nat) : Int) - 1 = q := by omega
  have h3 : (0 : Int) < ((q + 1 : Nat) : Int) := by omega
  have h4 : IntKind.i64.wrap (q : Int) = q := IntWalk.i64_in _ (by omega)
  go_enter Try.func14, Try.ntmps14
  go_wp2_with (go_at_call 30; refine (rmade_any b mb _ c1).mono ?_; rintro e w2 ⟨rfl, rfl⟩)
  go_ret
  exact ⟨rfl, rfl⟩
theorem new3 (W : World) (e : TypeId) (x y z : Value) (j : Nat) (u : Value) (h : [x, y, z][j]? = some u) : (W.alloc (.cells #[x, y, z] e)).cell? ((⟨W.heap.size, 0, none⟩ : Addr).add j) = some u := by
  rw [Addr.add_lit]
  simp only [World.cell?, heap_alloc_new, Nat.zero_add]
  simpa using h
theorem block_set0 {w : World} {b : Nat} {x y v : Value} {t : TypeId} (h : w.heap[b]? = some (.cells #[x, y] t (0, 0))) : (w.setCell ⟨b, 0, none⟩ v).heap[b]? = some (.cells #[v, y] t (0, 0)) := by
  simp [World.setCell, Array.getElem?_modify, h]
/-- What an Add that is taken leaves. -/
def Added (w : World) (b mb : Nat) (v : Value) (n : Nat) (l : List Wt) (w' : World) : Prop :=
  ∃ v' w1, w.grownBy w1 v.ownBlock ∧ w' = w1.setCell ⟨b, 0, none⟩ v' ∧ Win w' (b + 1) 76 3 v' n (wcs l) ∧ w'.heap[b]? = some (.cells #[v', .map (some mb)] 69 (0, 0)) ∧ ∀ j, v'.ownBlock = some j → v.ownBlock = some j ∨ w.heap.size ≤ j
theorem added_of {w w1 W : World} {b mb n : Nat} {v v' : Value} {l : List Wt} {o : Obj} (hW : W = w.alloc o) (hb : w.heap[b]? = some (.cells #[v, .map (some mb)] 69 (0, 0))) (hown : ∀ j, v.ownBlock = some j → b + 1 ≤ j)
    (hw : Win w1 (b + 1) 76 3 v' n (wcs l)) (hg : W.grownBy w1 v.ownBlock) (ho : v'.ownBlock = v.ownBlock ∨ v'.ownBlock = some W.heap.size) : Added w b mb v n l (w1.setCell ⟨b, 0, none⟩ v') ∧ w1.heap[b]? = some (.cells #[v, .map (some mb)] 69 (0, 0)) := by
  subst hW
  have hlt := (Array.getElem?_eq_some_iff.1 hb).1
  have h1 : w1.heap[b]? = some (.cells #[v, .map (some mb)] 69 (0, 0)) := by
    rw [hg.block b (by simp; omega) (fun h => by have := hown b h.symm; omega), Below.heap_alloc _ _ _ hlt]; exact hb
  refine ⟨⟨v', w1, (World.grownBy_alloc _ _ _).trans hg, rfl, hw.keep (fun j _ hj _ => ?_), block_set0 h1, fun j hj => ?_⟩, h1⟩
  rotate_left
  · rcases ho with e | e
    · exact .inl (by rw [← e]; exact hj)
    · rw [e] at hj; simp at hj; exact .inr (by omega)
  exact Below.heap_setCell _ _ _ _ (by show j ≠ b; omega)
theorem win_own {w : World} {base : Nat} {e : TypeId} {size : Nat} {a : Option Addr} {n c : Nat} {xs : List Value} (h : Win w base e size (.slice a n c) n xs) (hn : 0 < n ∨ a = none) : ∀ j, (Value.slice a n c).ownBlock = some j → base ≤ j := by
  intro j hj
  obtain ⟨_, a', cap, he, ⟨h0, _⟩ | ⟨g, off, cur, rfl, hg, _⟩⟩ := h
  · cases he
    rcases hn with hn | rfl
    · omega
    · simp [Value.ownBlock] at hj
  · cases he
    simp [Value.ownBlock] at hj
    omega
theorem Win.slice {w : World} {base : Nat} {e : TypeId} {size : Nat} {v : Value} {n : Nat} {xs : List Value} (h : Win w base e size v n xs) : ∃ a c, v = .slice a n c := by
  obtain ⟨_, a, c, e, _⟩ := h
  exact ⟨a, c, e⟩
theorem add_key {w : World} {b mb n : Nat} {v : Value} {l : List Wt} {id ix rd : Int} (hb : w.heap[b]? = some (.cells #[v, .map (some mb)] 69 (0, 0))) (hown : ∀ j, v.ownBlock = some j → b + 1 ≤ j) (hl : l.length = n) :
    ∀ v1 w1, Win w1 (b + 1) 76 3 v1 (n + 1) (wcs l ++ [.int .i64 id, .int .i64 ix, .int .i64 rd]) → (w.alloc (.cells #[.int .i64 id, .int .i64 ix, .int .i64 rd] 76)).grownBy w1 v.ownBlock → (v1.ownBlock = v.ownBlock ∨ v1.ownBlock = some (w.alloc (.cells #[.int .i64 id, .int .i64 ix, .int .i64 rd] 76)).heap.size) →
      Added w b mb v (n + 1) (l ++ [(id, ix, rd)]) (w1.setCell ⟨b, 0, none⟩ v1) ∧ w1.cell? ⟨b, 0, none⟩ = some v ∧ w1.frozen? ⟨b, 0, none⟩ = false := by
  intro v1 w1 hw1 hg1 ho1
  have hw2 : Win w1 (b + 1) 76 3 v1 (n + 1) (wcs (l ++ [(id, ix, rd)])) := by rw [wcs_snoc]; exact hw1
  obtain ⟨hA, hb1⟩ := added_of (l := l ++ [(id, ix, rd)]) rfl hb hown hw2 hg1 ho1
  exact ⟨hA, by simp [World.cell?, hb1], by simp [World.frozen?, hb1]⟩
theorem add_first (b mb c : Nat) (a : Option Addr) (id ix rd : Int) (w : World) (hb : w.heap[b]? = some (.cells #[.slice a 0 c, .map (some mb)] 69 (0, 0))) (hW : Win w (b + 1) 76 3 (.slice a 0 c) 0 []) (ha : ∀ j, (Value.slice a 0 c).ownBlock = some j → b + 1 ≤ j) :
    Calls Try.prog 14 #[.pointer (some ⟨b, 0, none⟩), .int .i64 id, .int .i64 ix, .int .i64 rd] w fun e w' => e = .returned (.bool true) ∧ Added w b mb (.slice a 0 c) 1 [(id, ix, rd)] w' := by
  have c0 : w.cell? ⟨b, 0, none⟩ = some (.slice a 0 c) := by simp [World.cell?, hb]
  have c1 : w.cell? ⟨b, 1, none⟩ = some (.map (some mb)) := by simp [World.cell?, hb]
  have hlt := (Array.getElem?_eq_some_iff.1 hb).1
  have HW := Lib.hid hW
  have KEY := Lib.hid (add_key (n := 0) (l := []) (id := id) (ix := ix) (rd := rd) hb ha rfl)
  clear hb hW ha
  obtain ⟨i0, hi, hz0, hz1, hz2⟩ := info_parts info76
  go_enter Try.func14, Try.ntmps14
  go_wp2_with (first
    | (go_at_call 30; refine (rmade_any b mb _ c1).mono ?_; rintro e w2 ⟨rfl, rfl⟩)
    | (at_builtin; refine wpList_append_win _ rfl _ _ 66 rfl (b + 1) 76 i0 (.agg #[.int .i64 0, .int .i64 0, .int .i64 0]) 3 24 Try.underlying66 hi hz0 hz1 hz2 rfl (by decide) (.slice a 0 c) 0 [] rfl (HW.out.alloc _) ⟨w.heap.size, 0, none⟩ 1 1 [.int .i64 id, .int .i64 ix, .int .i64 rd] Nat.one_pos rfl rfl (new3 _ _ _ _ _) (by simp [Value.oneCell']) (by simp only [maxLen]; omega) (by omega) (Nat.le_trans hlt (by simp)) ?_; intro v1 w1 hw1 hg1 ho1; obtain ⟨hA, c2, f2⟩ := KEY.out v1 w1 hw1 hg1 ho1; obtain ⟨a1, k1, rfl⟩ := hw1.slice; have HA1 := Lib.hid hA; clear hA hw1 hg1 ho1))
  go_ret
  exact ⟨rfl, HA1.out⟩
theorem add_more (b mb n c g off : Nat) (l : List Wt) (id ix rd x : Int) (w : World) (hb : w.heap[b]? = some (.cells #[.slice (some ⟨g, off, none⟩) (n + 1) c, .map (some mb)] 69 (0, 0))) (hn : n + 1 < 1000) (hl : l.length = n + 1)
    (hW : Win w (b + 1) 76 3 (.slice (some ⟨g, off, none⟩) (n + 1) c) (n + 1) (wcs l)) (ha : ∀ j, (Value.slice (some ⟨g, off, none⟩) (n + 1) c).ownBlock = some j → b + 1 ≤ j) (hx : w.cell? ⟨g, off + n * 3 + 2, none⟩ = some (.int .i64 x)) (hr : x ≤ rd) :
    Calls Try.prog 14 #[.pointer (some ⟨b, 0, none⟩), .int .i64 id, .int .i64 ix, .int .i64 rd] w fun e w' => e = .returned (.bool true) ∧ Added w b mb (.slice (some ⟨g, off, none⟩) (n + 1) c) (n + 2) (l ++ [(id, ix, rd)]) w' := by
  have c0 : w.cell? ⟨b, 0, none⟩ = some (.slice (some ⟨g, off, none⟩) (n + 1) c) := by simp [World.cell?, hb]
  have c1 : w.cell? ⟨b, 1, none⟩ = some (.map (some mb)) := by simp [World.cell?, hb]
  have hlt := (Array.getElem?_eq_some_iff.1 hb).1
  have hlg := cell_block_lt hx
  have HW := Lib.hid hW
  have KEY := Lib.hid (add_key (n := n + 1) (l := l) (id := id) (ix := ix) (rd := rd) hb ha hl)
  have h1 : ¬ (1000 : Int) ≤ ((n + 1 : Nat) : Int) := by omega
  have h2 : ((n + 1 : Nat) : Int) - 1 = n := by omega
  have h3 : (0 : Int) < ((n + 1 : Nat) : Int) := by omega
  have h4 : IntKind.i64.wrap (n : Int) = n := IntWalk.i64_in _ (by omega)
  have h5 : ¬ rd < x := by omega
  have h63 : n + 1 + 1 ≤ maxLen := by simp only [maxLen]; omega
  have h64 : (n + 1 + 1) * 24 ≤ 140737488355328 := by omega
  clear hb hW ha hl
  obtain ⟨i0, hi, hz0, hz1, hz2⟩ := info_parts info76
  go_enter Try.func14, Try.ntmps14
  go_wp2_with (first
    | (go_at_call 30; refine (rmade_any b mb _ c1).mono ?_; rintro e w2 ⟨rfl, rfl⟩)
    | (at_builtin; refine wpList_append_win _ rfl _ _ 66 rfl (b + 1) 76 i0 (.agg #[.int .i64 0, .int .i64 0, .int .i64 0]) 3 24 Try.underlying66 hi hz0 hz1 hz2 rfl (by decide) (.slice (some ⟨g, off, none⟩) (n + 1) c) (n + 1) (wcs l) rfl (HW.out.alloc _) ⟨w.heap.size, 0, none⟩ 1 1 [.int .i64 id, .int .i64 ix, .int .i64 rd] Nat.one_pos rfl rfl (new3 _ _ _ _ _) (by simp [Value.oneCell']) h63 h64 (Nat.le_trans hlt (by simp)) ?_; intro v1 w1 hw1 hg1 ho1; obtain ⟨hA, c2, f2⟩ := KEY.out v1 w1 hw1 hg1 ho1; obtain ⟨a1, k1, rfl⟩ := hw1.slice; have HA1 := Lib.hid hA; clear hA hw1 hg1 ho1))
  go_ret
  exact ⟨rfl, HA1.out⟩
end Go.Proofs.Ytbjhpifllgoffaa
