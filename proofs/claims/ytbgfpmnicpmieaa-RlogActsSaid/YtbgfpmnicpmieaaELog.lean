/- A log as it lies: what it owns, and what a call leaves as it was. -/
import Derived.Test.YtbgfpmnicpmieaaEFirst
namespace Go.Proofs.Ytbgfpmnicpmieaa
open Go Go.RowKit Go.Shelf Go.Sort
set_option linter.unusedVariables false
set_option linter.unusedSimpArgs false
set_option maxRecDepth 100000
set_option maxHeartbeats 1000000
/-- All blocks but some stay as they were. -/
structure Kept (S : Nat → Prop) (w w' : World) : Prop where
  os : w'.os = w.os
  tape : w'.tape = w.tape
  output : w'.output = w.output
  size : w.heap.size ≤ w'.heap.size
  block : ∀ k, k < w.heap.size → ¬ S k → w'.heap[k]? = w.heap[k]?
theorem Kept.of {S : Nat → Prop} {w w' : World} {m : Nat} (h : Below m w w') (hm : w.heap.size ≤ m) : Kept S w w' := ⟨h.os, h.tape, h.output, h.size, fun k hk _ => h.block k (Nat.lt_of_lt_of_le hk hm)⟩
theorem Kept.refl (S : Nat → Prop) (w : World) : Kept S w w := ⟨rfl, rfl, rfl, Nat.le_refl _, fun _ _ _ => rfl⟩
theorem Kept.trans {S : Nat → Prop} {a b c : World} (h : Kept S a b) (k : Kept S b c) : Kept S a c :=
  ⟨k.os.trans h.os, k.tape.trans h.tape, k.output.trans h.output, Nat.le_trans h.size k.size, fun i hi hs => (k.block i (Nat.lt_of_lt_of_le hi h.size) hs).trans (h.block i hi hs)⟩
theorem Kept.drew {S : Nat → Prop} {a w : World} (h : Kept S a w) : Kept S a w.drew := ⟨h.os, h.tape, h.output, h.size, h.block⟩
theorem Kept.weaken {S T : Nat → Prop} {a w : World} (h : Kept S a w) (hs : ∀ k, S k → T k) : Kept T a w := ⟨h.os, h.tape, h.output, h.size, fun k hk ht => h.block k hk fun hh => ht (hs k hh)⟩
theorem Kept.setCell {S : Nat → Prop} {a w : World} (h : Kept S a w) {p : Addr} (hp : S p.block) (u : Value) : Kept S a (w.setCell p u) :=
  h.trans ⟨rfl, rfl, rfl, by have := Below.setCell (Below.refl 0 w) (Nat.zero_le p.block) u; exact this.size, fun k hk hs => Below.heap_setCell w p u k fun e => hs (e ▸ hp)⟩
theorem Kept.below {S : Nat → Prop} {w w' : World} {m : Nat} (h : Kept S w w') (hm : m ≤ w.heap.size) (hs : ∀ k, S k → m ≤ k) : Below m w w' :=
  ⟨h.os, h.tape, h.output, h.size, fun k hk => h.block k (Nat.lt_of_lt_of_le hk hm) fun hh => absurd (hs k hh) (by omega)⟩
theorem Kept.grown {S : Nat → Prop} {a w w' : World} {row : Option Nat} (h : Kept S a w) (hg : w.grownBy w' row) (hr : ∀ k, row = some k → k < a.heap.size → S k) : Kept S a w' :=
  ⟨hg.os.trans h.os, hg.tape.trans h.tape, hg.output.trans h.output, Nat.le_trans h.size hg.size, fun k hk hs => (hg.block k (Nat.lt_of_lt_of_le hk h.size) fun e => hs (hr k e.symm hk)).trans (h.block k hk hs)⟩
theorem LB.kept {w w' b l} {S : Nat → Prop} (h : LB w b l) (hk : Kept S w w') (hs : ¬ S b) : LB w' b l := (hk.block b h.lt hs).trans h
theorem own_kept {w w' : World} {base : Nat} {e : TypeId} {size n : Nat} {v : Value} {xs : List Value} {S : Nat → Prop} (h : w.ownsRow base e size v n xs) (hk : Kept S w w') (hs : ∀ j, v.ownBlock = some j → ¬ S j) : w'.ownsRow base e size v n xs := by
  refine ⟨h.1, ?_⟩
  rcases h.2 with h0 | ⟨g, cap, cur, h1, h2, h3, h4⟩
  · exact .inl h0
  · exact .inr ⟨g, cap, cur, h1, h2, (hk.block g (Array.getElem?_eq_some_iff.1 h3).1 (hs g (by rw [h1]; rfl))).trans h3, h4⟩
theorem own_set {w : World} {base : Nat} {e : TypeId} {size n : Nat} {v : Value} {xs : List Value} (h : w.ownsRow base e size v n xs) (p : Addr) (u : Value) (hp : v.ownBlock ≠ some p.block) : (w.setCell p u).ownsRow base e size v n xs :=
  own_kept (S := fun k => k = p.block) h ((Kept.refl (fun k => k = p.block) w).setCell (p := p) rfl u) fun j hj e => hp (by rw [hj, e])
/-- A log that was made: its block, and the row that it owns. -/
structure LG (w : World) (m b : Nat) (l : Lg) (es : List Ent) : Prop where
  lb : LB w b l
  own : w.ownsRow m 37 13 (.slice l.a l.n l.c) l.n (flatE es)
  mb : m ≤ b
def gOf (l : Lg) : Option Nat := (Value.slice l.a l.n l.c).ownBlock
theorem LG.er {w m b l es} (h : LG w m b l es) : ER w l.a l.n es := by
  obtain ⟨a, c, e, h1, _⟩ := own_er h.own
  cases e; exact h1
theorem LG.cap {w m b l es} (h : LG w m b l es) : l.n ≤ l.c := by
  obtain ⟨a, c, e, _, h1⟩ := own_er h.own
  cases e; exact h1
theorem LG.len {w m b l es} (h : LG w m b l es) : es.length = l.n := h.er.1
theorem LG.ep {w m b l es} (h : LG w m b l es) : EP w l.a l.n (pts es) := h.er.ep
/-- The row's block is another than the log's own. -/
theorem LG.ne {w m b l es} (h : LG w m b l es) {j : Nat} (hj : gOf l = some j) : j ≠ b := by
  rintro rfl
  rcases h.own.2 with ⟨h0, _⟩ | ⟨g, cap, cur, h1, _, h3, _⟩
  · rw [gOf, h0] at hj; cases hj
  · rw [gOf, h1] at hj
    cases hj
    have := h.lb
    unfold LB at this
    rw [h3] at this
    injection this with this
    injection this with _ h5
    exact absurd h5 (by decide)
theorem LG.lt {w m b l es} (h : LG w m b l es) {j : Nat} (hj : gOf l = some j) : m ≤ j ∧ j < w.heap.size := h.own.lt j hj
theorem LG.below {w w' m b l es} {k : Nat} (h : LG w m b l es) (hk : w.heap.size ≤ k) (hb : Below k w w') : LG w' m b l es := ⟨h.lb.below hk hb, own_below h.own hk hb, h.mb⟩
theorem LG.kept {w w' m b l es} {S : Nat → Prop} (h : LG w m b l es) (hk : Kept S w w') (hs : ¬ S b) (hg : ∀ j, gOf l = some j → ¬ S j) : LG w' m b l es := ⟨h.lb.kept hk hs, own_kept h.own hk hg, h.mb⟩
theorem ER.take {w : World} {a : Option Addr} {n : Nat} {es : List Ent} (h : ER w a n es) {k : Nat} (hk : k ≤ n) : ER w a k (es.take k) := by
  refine ⟨by rw [List.length_take, h.1]; omega, ?_⟩
  rcases h.2 with h0 | ⟨b, off, e, hc⟩
  · exact .inl (by omega)
  · refine .inr ⟨b, off, e, fun j hj c hc' => ?_⟩
    have e : (es.take k).getD j default = es.getD j default := by rw [List.getD_eq_getElem?_getD, List.getD_eq_getElem?_getD, List.getElem?_take, if_pos hj]
    rw [e]
    exact hc j (by omega) c hc'
theorem ER.drop {w : World} {b off n : Nat} {es : List Ent} (h : ER w (some ⟨b, off, none⟩) n es) {k : Nat} (hk : k ≤ n) : ER w (some ⟨b, off + k * 13, none⟩) (n - k) (es.drop k) := by
  refine ⟨by rw [List.length_drop, h.1], ?_⟩
  rcases h.2 with h0 | ⟨b', off', e, hc⟩
  · exact .inl (by omega)
  · cases e
    refine .inr ⟨b, off + k * 13, rfl, fun j hj c hc' => ?_⟩
    have h1 := hc (k + j) (by omega) c hc'
    have e : (es.drop k).getD j default = es.getD (k + j) default := by rw [List.getD_eq_getElem?_getD, List.getD_eq_getElem?_getD, List.getElem?_drop]
    rw [e, show off + k * 13 + j * 13 + c = off + (k + j) * 13 + c by omega]
    exact h1
/-- Entries laid behind a row that has no room. -/
theorem run_cutE (ty : TypeId) (a : Option Addr) (k : Nat) (xs : List Ent) (w : World) (hX : ER w a k xs) (q : Addr) (m c : Nat) (ys : List Ent) (hY : ER w (some q) m ys) (hm : 0 < m) (hbytes : (k + m) * 168 ≤ 140737488355328) :
    ∃ c' w', (Builtin.append_ #[22, 22] ty #[.slice a k k, .slice (some q) m c]).run Try.prog w = .ok (.slice (some ⟨w.heap.size, 0, none⟩) (k + m) c') w' ∧ w'.ownsRow w.heap.size 37 13 (.slice (some ⟨w.heap.size, 0, none⟩) (k + m) c') (k + m) (flatE (xs ++ ys)) ∧ Below w.heap.size w w' := by
  cases a with
  | none =>
    have h0 : k = 0 := by
      rcases hX.2 with h | ⟨b, off, e, _⟩
      · exact h
      · cases e
    subst h0
    have hxs : xs = [] := List.eq_nil_of_length_eq_zero hX.1
    subst hxs
    obtain ⟨v', w', hr, h2, h3, h5⟩ := run_appE w.heap.size ty (.slice none 0 0) 0 [] w (World.ownsRow_nil _ _ _ _) (Nat.le_refl _) q m c ys hY hbytes
    rcases h2.2 with ⟨_, h6⟩ | ⟨g, cap, cur, rfl, h7⟩
    · omega
    · rcases h5 with h5 | h5
      · cases h5
      · cases h5
        exact ⟨cap, w', hr, h2, (Below.refl _ w).grown h3 (Nat.le_refl _) (fun k ek => by cases ek)⟩
  | some p =>
    obtain ⟨i0, hi, hz0, hz1, hz2⟩ := info_parts Try.info37
    have hxl := hX.1
    have hyl := hY.1
    have hr := run_append_grow (P := Try.prog) w 22 ty 37 i0 _ Try.underlying22 hi hz0 p k k (flatE xs) (by rw [hz1, flatE_len, hxl]) hX.news q m c (flatE ys) (by rw [hz1, flatE_len, hyl]) hY.news (by omega) (by omega) (growslice_fits (by omega) (by rw [hz2]; exact hbytes))
    refine ⟨_, _, hr, ?_, ((Below.refl _ w).drew).alloc (Nat.le_refl _) _⟩
    refine ⟨by rw [flatE_len, List.length_append, hxl, hyl], .inr ⟨w.heap.size, _, _, rfl, Nat.le_refl _, heap_alloc_new w.drew _, grownCap_ge _ _ _ _, grownCap_le_maxLen _ _ _ _ (by simp only [maxLen]; omega), ?_, ?_⟩⟩
    · rw [Array.size_append, Array.size_append, size_zeroCells]
      have := grownCap_ge w (k + m) k 37
      simp only [List.size_toArray, flatE_len, hxl, hyl, Value.cells, Array.size]
      simp only [List.length_cons, List.length_nil]
      omega
    · rw [flatE_app]
      simp only [Array.toList_append, List.append_assoc]
      rw [← List.append_assoc, List.take_left' (by rw [List.length_append, flatE_len, flatE_len, hxl, hyl]; omega)]
end Go.Proofs.Ytbgfpmnicpmieaa
