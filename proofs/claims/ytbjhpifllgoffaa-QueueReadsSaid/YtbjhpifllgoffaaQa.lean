/- A queue as a list; Add to reads of which none waits; lives. -/
import Derived.Test.YtbjhpifllgoffaaReady
import Derived.Test.YtbjhpifllgoffaaChan
namespace Go.Proofs.Ytbjhpifllgoffaa
open Go Go.RowKit Go.Maps Go.Conc
set_option linter.unusedVariables false
set_option linter.unusedSimpArgs false
set_option maxRecDepth 100000
set_option maxHeartbeats 1000000
/-- A queue that holds these numbers. -/
def QS (w : World) (b c cap : Nat) (xs : List Int) : Prop :=
  c < b ∧ w.heap[b]? = some (.cells #[.chan (some c)] 74 (0, 0)) ∧ ∃ s r, w.heap[c]? = some (.chan cap (xs.map (Value.int .i64)).toArray false s r false)
theorem QS.kept {w w' : World} {b c cap : Nat} {xs : List Int} {S : Nat → Prop} (h : QS w b c cap xs) (hk : Kept S w w') (hb : ¬ S b) (hc : ¬ S c) : QS w' b c cap xs := by
  obtain ⟨h1, h2, s, r, h3⟩ := h
  exact ⟨h1, (hk.block _ (Array.getElem?_eq_some_iff.1 h2).1 hb).trans h2, s, r, (hk.block _ (Array.getElem?_eq_some_iff.1 h3).1 hc).trans h3⟩
theorem QS.below {w w' : World} {b c cap m : Nat} {xs : List Int} (h : QS w b c cap xs) (hb : Below m w w') (hm : w.heap.size ≤ m) : QS w' b c cap xs :=
  h.kept (Kept.of (S := fun _ => False) hb hm) (fun h => h) (fun h => h)
theorem QS.lt {w : World} {b c cap : Nat} {xs : List Int} (h : QS w b c cap xs) : b < w.heap.size := (Array.getElem?_eq_some_iff.1 h.2.1).1
theorem QS.put {w : World} {b c cap s r : Nat} {xs ys : List Int} (h : QS w b c cap xs) {buf : Array Value} (hb : buf = (ys.map (Value.int .i64)).toArray) : QS (w.setChan c cap buf false s r false) b c cap ys ∧ Kept (fun j => j = c) w (w.setChan c cap buf false s r false) := by
  obtain ⟨h1, h2, s0, r0, h3⟩ := h
  have hlt := (Array.getElem?_eq_some_iff.1 h3).1
  subst hb
  refine ⟨⟨h1, ?_, s, r, heap_setChan _ _ _ _ _ _ _ _ hlt⟩, ⟨rfl, rfl, rfl, by rw [size_setChan]; exact Nat.le_refl _, fun k hk hn => ?_⟩⟩
  · simp only [World.setChan, Array.getElem?_setIfInBounds]
    rw [if_neg (by omega)]; exact h2
  · simp only [World.setChan, Array.getElem?_setIfInBounds]
    rw [if_neg (fun e => hn e.symm)]
theorem QS.cell {w : World} {b c cap : Nat} {xs : List Int} (h : QS w b c cap xs) : w.cell? ⟨b, 0, none⟩ = some (.chan (some c)) := by simp [World.cell?, h.2.1]
theorem push_at (b c cap : Nat) (xs : List Int) (x : Int) (w : World) (h : QS w b c cap xs) (hr : xs.length < cap) :
    Calls Try.prog 11 #[.pointer (some ⟨b, 0, none⟩), .int .i64 x] w fun e w' => e = .returned (.bool true) ∧ QS w' b c cap (xs ++ [x]) ∧ Kept (fun j => j = c) w w' := by
  obtain ⟨s, r, h3⟩ := h.2.2
  refine (push_room b c cap s r _ x w h.cell h3 (by simpa using hr)).mono ?_
  rintro e w' ⟨rfl, rfl⟩
  exact ⟨rfl, h.put (by simp)⟩
theorem push_no (b c cap : Nat) (xs : List Int) (x : Int) (w : World) (h : QS w b c cap xs) (hr : cap ≤ xs.length) :
    Calls Try.prog 11 #[.pointer (some ⟨b, 0, none⟩), .int .i64 x] w fun e w' => e = .returned (.bool false) ∧ w = w' := by
  obtain ⟨s, r, h3⟩ := h.2.2
  refine (push_full b c cap s r _ x w h.cell h3 (by simpa using hr)).mono ?_
  rintro e w' ⟨rfl, rfl⟩
  exact ⟨rfl, rfl⟩
theorem pop_at (b c cap : Nat) (x : Int) (xs : List Int) (w : World) (h : QS w b c cap (x :: xs)) :
    Calls Try.prog 10 #[.pointer (some ⟨b, 0, none⟩)] w fun e w' => e = .returned (.tuple #[.int .i64 x, .bool true]) ∧ QS w' b c cap xs ∧ Kept (fun j => j = c) w w' := by
  obtain ⟨s, r, h3⟩ := h.2.2
  refine (pop_some b c cap s r _ x w h.cell h3 (by simp) (by simp)).mono ?_
  rintro e w' ⟨rfl, rfl⟩
  exact ⟨rfl, h.put (by simp [List.take_of_length_le])⟩
theorem pop_no (b c cap : Nat) (w : World) (h : QS w b c cap []) :
    Calls Try.prog 10 #[.pointer (some ⟨b, 0, none⟩)] w fun e w' => e = .returned (.tuple #[.int .i64 0, .bool false]) ∧ w = w' := by
  obtain ⟨s, r, h3⟩ := h.2.2
  refine (pop_none b c cap s r w h.cell h3).mono ?_
  rintro e w' ⟨rfl, rfl⟩
  exact ⟨rfl, rfl⟩
theorem qlen_at (b c cap : Nat) (xs : List Int) (w : World) (h : QS w b c cap xs) :
    Calls Try.prog 12 #[.pointer (some ⟨b, 0, none⟩)] w fun e w' => e = .returned (.int .i64 xs.length) ∧ w = w' := by
  obtain ⟨s, r, h3⟩ := h.2.2
  refine (len_any b c cap s r _ w h.cell h3).mono ?_
  rintro e w' ⟨rfl, rfl⟩
  exact ⟨by simp, rfl⟩
theorem qnew_at (most : Nat) (w : World) (h1 : 1 ≤ most) (h2 : most ≤ 10000) : Calls Try.prog 8 #[.int .i64 most] w fun e w' => e = .returned (.pointer (some ⟨w.heap.size + 1, 0, none⟩)) ∧ QS w' (w.heap.size + 1) w.heap.size most [] ∧ Below w.heap.size w w' ∧ w'.heap.size = w.heap.size + 2 := by
  refine (new_some most w h1 h2).mono ?_
  rintro e w' ⟨rfl, rfl⟩
  have hz : (w.alloc (.chan most #[] false 0 0 false)).heap.size = w.heap.size + 1 := by simp
  refine ⟨rfl, ⟨Nat.lt_succ_self _, ?_, 0, 0, ?_⟩, ((Below.refl _ w).alloc (Nat.le_refl _) _).alloc (by simp) _, by simp⟩
  · rw [← hz]; exact heap_alloc_new _ _
  · rw [Below.heap_alloc _ _ _ (by omega)]; exact heap_alloc_new _ _
/-- Is a read taken? -/
def addB (l : List Wt) (rd : Int) : Bool := decide (l.length < 1000) && (match l.getLast? with | none => true | some t => decide (t.2.2 ≤ rd))
theorem RActed.same {w : World} {lo : Nat} {p : RP} {k : Nat} {m : Int → Option Int} {l : List Wt} (h : RAt w lo p k m l) : RActed w lo p k m l w := ⟨p, rfl, rfl, h, fun _ h => .inl h, Kept.refl _ _⟩
theorem acted_of {w w' : World} {lo : Nat} {p : RP} {k : Nat} {m : Int → Option Int} {l : List Wt} {t : Wt} (h : RAt w lo p k m l) (hA : Added w p.b p.mb p.v (l.length + 1) (l ++ [t]) w') : RActed w lo p k m (l ++ [t]) w' := by
  obtain ⟨h1, h2, h3, ⟨D, h4, h5⟩, h6, h7⟩ := h
  obtain ⟨v', w1, hg, rfl, hW, hb, ho⟩ := hA
  have hK : Kept (fun j => j = p.b ∨ p.v.ownBlock = some j) w (w1.setCell ⟨p.b, 0, none⟩ v') := ((Kept.refl _ w).grown hg (fun r e => .inl (.inr e))).setCell (p := ⟨p.b, 0, none⟩) (.inl (.inl rfl)) _
  obtain ⟨g, off, cap, rfl, hbg, hnc, hcell⟩ := hW.cell (by omega)
  have hne : ∃ u, (wcs (l ++ [t]))[0]? = some u := by
    have := wcs_len (l ++ [t])
    exact ⟨_, List.getElem?_eq_getElem (by simp at this; omega)⟩
  obtain ⟨u, hu⟩ := hne
  have hgl := cell_block_lt (hcell 0 u hu)
  refine ⟨⟨p.b, p.mb, .slice (some ⟨g, off, none⟩) (l.length + 1) cap⟩, rfl, rfl, ⟨h1, h2, hb, ⟨D, ?_, h5⟩, by simpa using hW, fun j hj => ?_⟩, fun j hj => ?_, hK.weaken fun j hj => hj.imp (fun h => h) .inr⟩
  · obtain ⟨es, cl, i1, i2, i3, i4⟩ := h4
    exact ⟨es, cl, (hK.block _ (Array.getElem?_eq_some_iff.1 i1).1 (fun e => by rcases e with e | e; omega; have := (h7 _ e).1; omega)).trans i1, i2, i3, i4⟩
  · have e : g = j := by simpa [Value.ownBlock] using hj
    subst e
    exact ⟨hbg, hgl⟩
  · rcases hj with rfl | rfl | hj
    · exact .inl (.inl rfl)
    · exact .inl (.inr (.inl rfl))
    · rcases ho j hj with e | e
      · exact .inl (.inr (.inr e))
      · exact .inr e
theorem add_at (p : RP) (lo k : Nat) (m : Int → Option Int) (l : List Wt) (id ix rd : Int) (w : World) (h : RAt w lo p k m l) (hl : l.length ≤ 100000) :
    Calls Try.prog 14 #[.pointer (some ⟨p.b, 0, none⟩), .int .i64 id, .int .i64 ix, .int .i64 rd] w fun e w' => e = .returned (.bool (addB l rd)) ∧ RActed w lo p k m (if addB l rd then l ++ [(id, ix, rd)] else l) w' := by
  have h0 := h
  obtain ⟨h1, h2, h3, ⟨D, h4, h5⟩, h6, h7⟩ := h
  obtain ⟨a, c, hv⟩ := h6.slice
  by_cases hf : l.length < 1000
  · rcases List.eq_nil_or_concat l with rfl | ⟨l', t, rfl⟩
    · have hB : addB [] rd = true := rfl
      rw [hB]
      have h3' := h3; have h6' := h6; have h7' := fun j hj => (h7 j hj).1
      rw [hv] at h3' h6' h7'
      refine (add_first p.b p.mb c a id ix rd w h3' h6' h7').mono ?_
      rintro e w' ⟨rfl, hA⟩
      refine ⟨rfl, ?_⟩
      rw [if_pos rfl]
      exact acted_of h0 (by rw [hv]; exact hA)
    · rw [List.concat_eq_append] at *
      obtain ⟨g, off, cap, hv2, hbg, hnc, hcell⟩ := h6.cell (by simp)
      rw [hv] at hv2
      injection hv2 with e1 e2 e3
      subst e1 e3
      have hlen : (l' ++ [t]).length = l'.length + 1 := by simp
      rw [hlen] at hv hf hl
      have h3' := h3; have h6' := h6; have h7' := fun j hj => (h7 j hj).1
      rw [hv] at h3' h6' h7'
      rw [hlen] at h6'
      have hx : w.cell? ⟨g, off + l'.length * 3 + 2, none⟩ = some (.int .i64 t.2.2) := by
        have e1 := wcs_at (l' ++ [t]) l'.length 2 (by simp) (by omega)
        have e2 : (l' ++ [t]).getD l'.length (0, 0, 0) = t := by simp [List.getD_eq_getElem?_getD]
        rw [e2] at e1
        have := hcell _ _ e1
        rw [← Nat.add_assoc] at this
        exact this
      have hgl : (l' ++ [t]).getLast? = some t := by simp
      by_cases hr : rd < t.2.2
      · have hB : addB (l' ++ [t]) rd = false := by
          unfold addB; rw [hgl]; simp; omega
        rw [hB]
        refine (add_less p.b p.mb (l'.length + 1) c g off id ix rd t.2.2 w h3' hf (by omega) (by rw [Nat.add_sub_cancel]; exact hx) hr).mono ?_
        rintro e w' ⟨rfl, rfl⟩
        exact ⟨rfl, RActed.same h0⟩
      · have hB : addB (l' ++ [t]) rd = true := by
          unfold addB; rw [hgl]; simp; omega
        rw [hB]
        refine (add_more p.b p.mb l'.length c g off (l' ++ [t]) id ix rd t.2.2 w h3' hf hlen h6' h7' hx (by omega)).mono ?_
        rintro e w' ⟨rfl, hA⟩
        refine ⟨rfl, ?_⟩
        rw [if_pos rfl]
        exact acted_of h0 (by rw [hv, hlen]; exact hA)
  · have hB : addB l rd = false := by unfold addB; simp [hf]
    rw [hB]
    have h3' := h3
    rw [hv] at h3'
    refine (add_full p.b p.mb l.length c a id ix rd w h3' (by omega) hl).mono ?_
    rintro e w' ⟨rfl, rfl⟩
    exact ⟨rfl, RActed.same h0⟩
end Go.Proofs.Ytbjhpifllgoffaa
