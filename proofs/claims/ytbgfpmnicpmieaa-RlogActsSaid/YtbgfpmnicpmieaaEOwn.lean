/- Rows of entries that a call owns; a copy. -/
import Derived.Test.YtbgfpmnicpmieaaEChain
import Derived.Test.YtbgfpmnicpmieaaRNew
import Derived.Maps.AppendAt
namespace Go.Proofs.Ytbgfpmnicpmieaa
open Go Go.RowKit Go.Shelf Go.Sort
set_option linter.unusedVariables false
set_option linter.unusedSimpArgs false
set_option maxRecDepth 100000
set_option maxHeartbeats 1000000
/-- All cells of entries, one behind the other. -/
def flatE (es : List Ent) : List Value := es.flatMap Ent.cs'
theorem flatE_nil : flatE [] = [] := rfl
theorem flatE_cons (e : Ent) (es : List Ent) : flatE (e :: es) = e.cs' ++ flatE es := by simp [flatE]
theorem flatE_app (es fs : List Ent) : flatE (es ++ fs) = flatE es ++ flatE fs := by simp [flatE]
theorem flatE_len (es : List Ent) : (flatE es).length = es.length * 13 := by
  induction es with
  | nil => rfl
  | cons e es ih => rw [flatE_cons, List.length_append, ih]; simp; omega
theorem flatE_get (es : List Ent) {j c : Nat} (hj : j < es.length) (hc : c < 13) : (flatE es)[j * 13 + c]? = some ((es.getD j default).cs'.getD c undef) := by
  induction es generalizing j with
  | nil => simp at hj
  | cons e es ih =>
    rw [flatE_cons]
    cases j with
    | zero =>
      rw [List.getElem?_append_left (by simp; omega), List.getD_cons_zero, List.getD_eq_getElem?_getD, Nat.zero_mul, Nat.zero_add]
      rw [List.getElem?_eq_getElem (show c < e.cs'.length by simpa using hc)]
      rfl
    | succ j =>
      rw [List.getElem?_append_right (by simp; omega), List.getD_cons_succ]
      rw [show (j + 1) * 13 + c - e.cs'.length = j * 13 + c by simp; omega]
      exact ih (by simpa using hj)
theorem flatE_at (es : List Ent) {i : Nat} {v : Value} (h : (flatE es)[i]? = some v) : i / 13 < es.length ∧ v = (es.getD (i / 13) default).cs'.getD (i % 13) undef := by
  have hi : i < es.length * 13 := by have := (List.getElem?_eq_some_iff.1 h).1; rwa [flatE_len] at this
  have h2 := flatE_get es (j := i / 13) (c := i % 13) (by omega) (by omega)
  rw [show i / 13 * 13 + i % 13 = i by omega, h] at h2
  exact ⟨by omega, by simpa using h2⟩
theorem flatE_one (es : List Ent) : ∀ u ∈ flatE es, u.oneCell' = true := by
  intro u hu
  simp only [flatE, List.mem_flatMap] at hu
  obtain ⟨e, _, h⟩ := hu
  simp only [List.mem_cons, List.not_mem_nil, or_false] at h
  rcases h with rfl | rfl | rfl | rfl | rfl | rfl | rfl | rfl | rfl | rfl | rfl | rfl | rfl <;> rfl
theorem ER.news {w : World} {p : Addr} {n : Nat} {es : List Ent} (h : ER w (some p) n es) : ∀ j v, (flatE es)[j]? = some v → w.cell? (p.add j) = some v := by
  intro j v hv
  obtain ⟨h1, rfl⟩ := flatE_at es hv
  rcases h.2 with h0 | ⟨b', off', e, hc⟩
  · have := h.1; omega
  · cases e
    rw [Addr.add_lit]
    have := hc (j / 13) (by rw [← h.1]; exact h1) (j % 13) (by omega)
    rwa [show off' + j / 13 * 13 + j % 13 = off' + j by omega] at this
/-- What a call owns is read. -/
theorem own_er {w : World} {base n : Nat} {v : Value} {es : List Ent} (h : w.ownsRow base 37 13 v n (flatE es)) : ∃ a c, v = .slice a n c ∧ ER w a n es ∧ n ≤ c := by
  have hl : es.length = n := by have := h.1; rw [flatE_len] at this; omega
  rcases h.2 with ⟨rfl, rfl⟩ | ⟨g, cap, cur, rfl, hb, hg, h2, h3, h4, h5⟩
  · exact ⟨none, 0, rfl, ⟨hl, .inl rfl⟩, Nat.le_refl _⟩
  · refine ⟨some ⟨g, 0, none⟩, cap, rfl, ⟨hl, .inr ⟨g, 0, rfl, fun j hj c hc => ?_⟩⟩, h2⟩
    rw [Nat.zero_add, cell_of_row w g _ cur 37 _ hg]
    have e := congrArg (fun x : List Value => x[j * 13 + c]?) h5
    rw [List.getElem?_take_of_lt (by omega), flatE_get es (by omega) hc] at e
    simpa using e
theorem own_blk {w : World} {base : Nat} {e : TypeId} {size n : Nat} {v : Value} {xs : List Value} (h : w.ownsRow base e size v n xs) {j : Nat} (ej : v.ownBlock = some j) : base ≤ j := (h.lt j ej).1
theorem own_mono {w : World} {base base' : Nat} {e : TypeId} {size n : Nat} {v : Value} {xs : List Value} (h : w.ownsRow base e size v n xs) (hb : base' ≤ base) : w.ownsRow base' e size v n xs := by
  refine ⟨h.1, ?_⟩
  rcases h.2 with h0 | ⟨g, cap, cur, h1, h2, h3⟩
  · exact .inl h0
  · exact .inr ⟨g, cap, cur, h1, by omega, h3⟩
theorem own_raise {w : World} {base base' : Nat} {e : TypeId} {size n : Nat} {v : Value} {xs : List Value} (h : w.ownsRow base e size v n xs) (hb : ∀ j, v.ownBlock = some j → base' ≤ j) : w.ownsRow base' e size v n xs := by
  refine ⟨h.1, ?_⟩
  rcases h.2 with h0 | ⟨g, cap, cur, h1, h2, h3⟩
  · exact .inl h0
  · exact .inr ⟨g, cap, cur, h1, hb g (by rw [h1]; rfl), h3⟩
theorem own_below {w w' : World} {base : Nat} {e : TypeId} {size n : Nat} {v : Value} {xs : List Value} {m : Nat} (h : w.ownsRow base e size v n xs) (hm : w.heap.size ≤ m) (hb : Below m w w') : w'.ownsRow base e size v n xs := by
  refine ⟨h.1, ?_⟩
  rcases h.2 with h0 | ⟨g, cap, cur, h1, h2, h3, h4⟩
  · exact .inl h0
  · exact .inr ⟨g, cap, cur, h1, h2, (hb.block g (Nat.lt_of_lt_of_le (Array.getElem?_eq_some_iff.1 h3).1 hm)).trans h3, h4⟩
/-- Entries laid behind a row that a call owns. -/
theorem run_appE (base : Nat) (ty : TypeId) (v : Value) (n : Nat) (xs : List Ent) (w : World) (hX : w.ownsRow base 37 13 v n (flatE xs)) (hb : base ≤ w.heap.size) (q : Addr) (m c : Nat) (ys : List Ent) (hY : ER w (some q) m ys) (hbytes : (n + m) * 168 ≤ 140737488355328) :
    ∃ v' w', (Builtin.append_ #[22, 22] ty #[v, .slice (some q) m c]).run Try.prog w = .ok v' w' ∧ w'.ownsRow base 37 13 v' (n + m) (flatE (xs ++ ys)) ∧ w.grownBy w' v.ownBlock ∧ (v'.ownBlock = v.ownBlock ∨ v'.ownBlock = some w.heap.size) := by
  obtain ⟨i0, hi, hz0, hz1, hz2⟩ := info_parts Try.info37
  obtain ⟨v', w', hr, h2, h3, _, h5⟩ := run_append_own_at (P := Try.prog) w base 22 ty 37 i0 _ 13 168 Try.underlying22 hi hz0 hz1 hz2 rfl (by decide) v n (flatE xs) hX q m c (flatE ys) (by rw [flatE_len, hY.1]) hY.news (flatE_one ys) (by simp only [maxLen]; omega) hbytes hb
  exact ⟨v', w', hr, by rw [flatE_app]; exact h2, h3, h5⟩
theorem clone_own (a : Option Addr) (n c : Nat) (es : List Ent) (w : World) (h : ER w a n es) (hn : n * 168 ≤ 140737488355328) :
    Calls Try.prog 37 #[.slice a n c] w fun e w' => ∃ a' c', e = .returned (.slice a' n c') ∧ w'.ownsRow w.heap.size 37 13 (.slice a' n c') n (flatE es) ∧ Below w.heap.size w w' := by
  have q22 : ∀ (w : World) (a : Option Addr) (n c n' c' : Nat), (binOp .eql 22 (.slice a n c) (.slice none n' c')).run Try.prog w = .ok (.bool a.isNone) w := fun w a n c n' c' => Lib.run_eql_slice_nil w _ _ a n c n' c' Try.underlying22
  cases a with
  | none =>
    have h0 : n = 0 := by
      rcases h.2 with h | ⟨b, off, e, _⟩
      · exact h
      · cases e
    subst h0
    have hes : es = [] := List.eq_nil_of_length_eq_zero h.1
    subst hes
    have hown : Hid (w.ownsRow w.heap.size 37 13 (.slice none 0 0) 0 (flatE [])) := World.ownsRow_nil _ _ _ _
    clear h hn
    go_enter Try.func37, Try.ntmps37
    go_wp2
    go_ret
    first | exact ⟨none, 0, rfl, hown.out, Below.refl _ _⟩ | exact ⟨none, ⟨0, rfl⟩, hown.out, Below.refl _ _⟩ | exact ⟨⟨none, 0, rfl⟩, hown.out, Below.refl _ _⟩
  | some p =>
    have L1 : Hid (Below w.heap.size w (w.alloc (.cells #[] 37))) := (Below.refl _ w).alloc (Nat.le_refl _) _
    have hs : w.heap.size ≤ (w.alloc (.cells #[] 37)).heap.size := L1.out.size
    have hown : (w.alloc (.cells #[] 37)).ownsRow w.heap.size 37 13 (.slice (some ⟨w.heap.size, 0, none⟩) 0 0) 0 (flatE []) :=
      ⟨rfl, .inr ⟨w.heap.size, 0, #[], rfl, Nat.le_refl _, heap_alloc_new w _, Nat.le_refl _, Nat.zero_le _, rfl, rfl⟩⟩
    obtain ⟨v', w', hr, h2, h3, h5⟩ := run_appE w.heap.size 22 _ 0 [] _ hown hs p n c es (h.keep (Nat.le_refl _) L1.out) (by omega)
    rw [Nat.zero_add, List.nil_append] at h2
    obtain ⟨a', c', rfl, _, _⟩ := own_er h2
    have H1 := Lib.hid h2
    have H2 : Hid (Below w.heap.size w w') := L1.out.grown h3 hs (fun k ek => by cases ek; exact Nat.le_refl _)
    have H3 := Lib.hid hr
    clear h2 hr h3 h5 hown hs h hn
    go_enter Try.func37, Try.ntmps37
    go_wp2_with (at_builtin; refine wpList_run rfl _ _ rfl _ _ rfl rfl _ _ H3.out ?_)
    go_ret
    first | exact ⟨_, _, rfl, H1.out, H2.out⟩ | exact ⟨_, ⟨_, rfl⟩, H1.out, H2.out⟩ | exact ⟨⟨_, _, rfl⟩, H1.out, H2.out⟩
end Go.Proofs.Ytbgfpmnicpmieaa
