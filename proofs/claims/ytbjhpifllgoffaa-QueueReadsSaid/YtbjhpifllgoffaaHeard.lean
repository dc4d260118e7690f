/- The document's reads: Heard. -/
import Derived.Test.YtbjhpifllgoffaaRefQ
namespace Go.Proofs.Ytbjhpifllgoffaa
open Go Go.RowKit Go.Maps
set_option linter.unusedVariables false
set_option linter.unusedSimpArgs false
set_option maxRecDepth 100000
set_option maxHeartbeats 2000000
/-! ### pairs, and what they say -/
def hearP : List Pr → Int → Int → List Pr
  | [], f, r => [(f, r)]
  | p :: H, f, r => if p.1 = f then (p.1, if p.2 < r then r else p.2) :: H else p :: hearP H f r
def mOf : List Pr → Int → Option Int
  | [], _ => none
  | p :: H, n => if p.1 = n then some p.2 else mOf H n
theorem mOf_hear : ∀ (H : List Pr) (f r : Int), mOf (hearP H f r) = hear (mOf H) f r
  | [], f, r => by
    funext n
    unfold hear
    show (if f = n then some r else none) = _
    by_cases e : n = f
    · subst e; rw [if_pos rfl, if_pos rfl]; rfl
    · rw [if_neg e, if_neg (fun h => e h.symm)]; rfl
  | p :: H, f, r => by
    funext n
    have ih := congrFun (mOf_hear H f r) n
    unfold hearP
    by_cases e : p.1 = f
    · rw [if_pos e]
      unfold hear
      show (if p.1 = n then _ else mOf H n) = _
      by_cases e2 : n = f
      · rw [if_pos (by omega), if_pos e2]
        have e3 : mOf (p :: H) f = some p.2 := by show (if p.1 = f then _ else _) = _; rw [if_pos e]
        rw [e3]
      · rw [if_neg (by omega), if_neg e2]
        show _ = (if p.1 = n then _ else mOf H n)
        rw [if_neg (by omega)]
    · rw [if_neg e]
      show (if p.1 = n then some p.2 else mOf (hearP H f r) n) = _
      rw [ih]
      unfold hear
      by_cases e2 : n = f
      · rw [if_neg (by omega), if_pos e2, if_pos e2]
        have e3 : mOf (p :: H) f = mOf H f := by show (if p.1 = f then _ else _) = _; rw [if_neg e]
        rw [e3]
      · rw [if_neg e2, if_neg e2]; rfl
theorem mOf_none {H : List Pr} {n : Int} (h : n ∉ H.map (·.1)) : mOf H n = none := by
  induction H with
  | nil => rfl
  | cons p H ih =>
    show (if p.1 = n then _ else _) = _
    rw [if_neg (fun e => h (by simp [e])), ih (fun e => h (by simp at e ⊢; exact .inr e))]
theorem hearP_fst (H : List Pr) (f r : Int) : (hearP H f r).map (·.1) = if f ∈ H.map (·.1) then H.map (·.1) else H.map (·.1) ++ [f] := by
  induction H with
  | nil => simp [hearP]
  | cons p H ih =>
    unfold hearP
    by_cases e : p.1 = f
    · have hm : f ∈ (p :: H).map (·.1) := by rw [List.map_cons, List.mem_cons]; exact .inl e.symm
      rw [if_pos e, if_pos hm]; rfl
    · rw [if_neg e, List.map_cons, ih]
      by_cases h : f ∈ H.map (·.1)
      · rw [if_pos h, if_pos (by simp only [List.map_cons, List.mem_cons]; exact .inr h)]; simp
      · rw [if_neg h, if_neg (by simp only [List.map_cons, List.mem_cons]; rintro (e2 | e2); exact e e2.symm; exact h e2)]; simp
theorem hearP_nodup {H : List Pr} (h : (H.map (·.1)).Nodup) (f r : Int) : ((hearP H f r).map (·.1)).Nodup := by
  rw [hearP_fst]
  split
  · exact h
  · rename_i hn
    rw [List.nodup_append]
    exact ⟨h, by simp, fun a ha b hb e => hn (by simp at hb; subst hb; subst e; exact ha)⟩
theorem hearP_len (H : List Pr) (f r : Int) : (hearP H f r).length ≤ H.length + 1 := by
  induction H with
  | nil => simp [hearP]
  | cons p H ih =>
    unfold hearP
    split <;> simp
    exact ih
theorem hearP_at {H : List Pr} {f r : Int} {i : Nat} (hi : i < H.length) (hf : (H.getD i (0, 0)).1 = f) (hn : ∀ j, j < i → (H.getD j (0, 0)).1 ≠ f) : hearP H f r = H.set i (f, if (H.getD i (0, 0)).2 < r then r else (H.getD i (0, 0)).2) := by
  induction H generalizing i with
  | nil => simp at hi
  | cons p H ih =>
    unfold hearP
    cases i with
    | zero =>
      have e : p.1 = f := hf
      rw [if_pos e, e]; rfl
    | succ i =>
      have e : p.1 ≠ f := hn 0 (by omega)
      rw [if_neg e, ih (i := i) (by simpa using hi) hf (fun j hj => hn (j + 1) (by omega))]
      rfl
theorem hearP_new {H : List Pr} {f r : Int} (hn : ∀ j, j < H.length → (H.getD j (0, 0)).1 ≠ f) : hearP H f r = H ++ [(f, r)] := by
  induction H with
  | nil => rfl
  | cons p H ih =>
    unfold hearP
    have e : p.1 ≠ f := hn 0 (by simp)
    rw [if_neg e, ih (fun j hj => hn (j + 1) (by simpa using hj))]; rfl
theorem atL_mOf (rd n : Int) {H : List Pr} (h : (H.map (·.1)).Nodup) : atL (mOf H) rd n = H.any fun p => p.1 == n && decide (rd ≤ p.2) := by
  induction H with
  | nil => rfl
  | cons p H ih =>
    rw [List.map_cons, List.nodup_cons] at h
    rw [List.any_cons, ← ih h.2]
    unfold atL
    show (match (if p.1 = n then some p.2 else mOf H n) with | some x => _ | none => _) = _
    by_cases e : p.1 = n
    · rw [if_pos e, mOf_none (H := H) (n := n) (by rw [← e]; exact h.1)]
      simp [e]
    · rw [if_neg e]
      have e2 : (p.1 == n) = false := by simpa using e
      rw [e2]
      cases mOf H n <;> simp
/-! ### the state, row by row -/
def XG (w : World) (lo : Nat) (x : XP) (l : List Wt) (F S : List Value) : Prop :=
  lo ≤ x.b ∧ w.heap[x.b]? = some (.cells #[x.lv, x.fv, x.sv] 50 (0, 0)) ∧ (Win w (x.b + 1) 79 3 x.lv l.length (wcs l) ∧ Win w (x.b + 1) 3 1 x.fv F.length F ∧ Win w (x.b + 1) 3 1 x.sv S.length S) ∧
    ((∀ j, x.lv.ownBlock = some j → x.b + 1 ≤ j ∧ j < w.heap.size) ∧ (∀ j, x.fv.ownBlock = some j → x.b + 1 ≤ j ∧ j < w.heap.size) ∧ (∀ j, x.sv.ownBlock = some j → x.b + 1 ≤ j ∧ j < w.heap.size)) ∧
    ((∀ j, x.lv.ownBlock = some j → x.fv.ownBlock ≠ some j ∧ x.sv.ownBlock ≠ some j) ∧ ∀ j, x.fv.ownBlock = some j → x.sv.ownBlock ≠ some j)
theorem xg_of {w : World} {lo : Nat} {x : XP} {l : List Wt} {H : List Pr} (h : XAt w lo x l H) : XG w lo x l (hf H) (hs H) := by
  obtain ⟨h1, h2, ⟨h3, h4, h5⟩, h6, h7, h8⟩ := h
  exact ⟨h1, h2, ⟨h3, by simpa [hf] using h4, by simpa [hs] using h5⟩, h6, h7⟩
theorem XG.at {w : World} {lo : Nat} {x : XP} {l : List Wt} {H : List Pr} (h : XG w lo x l (hf H) (hs H)) (hn : (H.map (·.1)).Nodup) : XAt w lo x l H := by
  obtain ⟨h1, h2, ⟨h3, h4, h5⟩, h6, h7⟩ := h
  exact ⟨h1, h2, ⟨h3, by simpa [hf] using h4, by simpa [hs] using h5⟩, h6, h7, hn⟩
def XGActed (w : World) (lo : Nat) (x y : XP) (l : List Wt) (F S : List Value) (w' : World) : Prop :=
  y.b = x.b ∧ XG w' lo y l F S ∧ (∀ j, y.own j → x.own j ∨ w.heap.size ≤ j) ∧ Kept x.own w w'
theorem XGActed.t {w w1 w' : World} {lo : Nat} {x y z : XP} {l : List Wt} {F S F' S' : List Value} (h : XGActed w lo x y l F S w1) (k : XGActed w1 lo y z l F' S' w') : XGActed w lo x z l F' S' w' := by
  obtain ⟨a1, a2, a3, a4⟩ := h
  obtain ⟨b1, b2, b3, b4⟩ := k
  have hs := a4.size
  refine ⟨b1.trans a1, b2, fun j hj => ?_, a4.join b4 (fun _ h => h) (fun j hj h => ?_)⟩
  · rcases b3 j hj with e | e
    · exact a3 j e
    · exact .inr (by omega)
  · rcases a3 j h with e | e
    · exact e
    · omega
theorem xfrom_key {w : World} {lo : Nat} {x : XP} {l : List Wt} {F S : List Value} {u : Value} {o : Obj} (h : XG w lo x l F S) :
    ∀ v1 w1, Win w1 (x.b + 1) 3 1 v1 (F.length + 1) (F ++ [u]) → (w.alloc o).grownBy w1 x.fv.ownBlock → (v1.ownBlock = x.fv.ownBlock ∨ v1.ownBlock = some (w.alloc o).heap.size) →
      XGActed w lo x ⟨x.b, x.lv, v1, x.sv⟩ l (F ++ [u]) S (w1.setCell ⟨x.b, 1, none⟩ v1) ∧ w1.cell? ⟨x.b, 1, none⟩ = some x.fv ∧ w1.frozen? ⟨x.b, 1, none⟩ = false ∧ w1.cell? ⟨x.b, 2, none⟩ = some x.sv := by
  intro v1 w1 hw hg ho
  obtain ⟨h1, h2, ⟨h3, h4, h5⟩, ⟨h6, h7, h8⟩, ⟨h9, h10⟩⟩ := h
  have hbl := (Array.getElem?_eq_some_iff.1 h2).1
  have hK : Kept (fun j => x.fv.ownBlock = some j) w w1 := ((Kept.refl _ w).alloc _).grown hg (fun r e => .inl e)
  have hb1 : w1.heap[x.b]? = some (.cells #[x.lv, x.fv, x.sv] 50 (0, 0)) := (hK.block _ hbl (fun e => by have := (h7 _ e).1; omega)).trans h2
  have hS : Kept (fun j => j = x.b) w1 (w1.setCell ⟨x.b, 1, none⟩ v1) := (Kept.refl (fun j => j = x.b) w1).setCell (p := ⟨x.b, 1, none⟩) (.inl rfl) _
  have hA := win_after hw (by omega) (by omega) ho
  have hsz : (w1.setCell ⟨x.b, 1, none⟩ v1).heap.size = w1.heap.size := by simp [World.setCell]
  have hs1 := hK.size
  have hlen : (F ++ [u]).length = F.length + 1 := by simp
  refine ⟨⟨rfl, ⟨h1, (block3_set hb1 v1).2.1, ⟨?_, ?_, ?_⟩, ⟨?_, ?_, ?_⟩, ⟨?_, ?_⟩⟩, ?_, hK.join hS (fun j hj => .inr (.inr (.inl hj))) (fun j _ e => .inl e)⟩, by simp [World.cell?, hb1], by simp [World.frozen?, hb1], by simp [World.cell?, hb1]⟩
  · exact (h3.blocks hK fun j hj e => (h9 j hj).1 e).blocks hS fun j hj e => by have := (h6 j hj).1; omega
  · rw [hlen]; exact hw.blocks hS fun j hj e => by have := (hA j hj).1.1; omega
  · exact (h5.blocks hK fun j hj e => h10 j e hj).blocks hS fun j hj e => by have := (h8 j hj).1; omega
  · exact fun j hj => ⟨(h6 j hj).1, by rw [hsz]; have := (h6 j hj).2; omega⟩
  · exact fun j hj => ⟨(hA j hj).1.1, by rw [hsz]; exact (hA j hj).1.2⟩
  · exact fun j hj => ⟨(h8 j hj).1, by rw [hsz]; have := (h8 j hj).2; omega⟩
  · intro j hj
    refine ⟨fun e => ?_, (h9 j hj).2⟩
    rcases (hA j e).2 with e2 | e2
    · exact (h9 j hj).1 e2
    · have := (h6 j hj).2; omega
  · intro j hj e
    rcases (hA j hj).2 with e2 | e2
    · exact h10 j e2 e
    · have := (h8 j e).2; omega
  · rintro j (rfl | hj | hj | hj)
    · exact .inl (.inl rfl)
    · exact .inl (.inr (.inl hj))
    · rcases (hA j hj).2 with e | e
      · exact .inl (.inr (.inr (.inl e)))
      · exact .inr e
    · exact .inl (.inr (.inr (.inr hj)))
theorem xsaid_key {w : World} {lo : Nat} {x : XP} {l : List Wt} {F S : List Value} {u : Value} {o : Obj} (h : XG w lo x l F S) :
    ∀ v1 w1, Win w1 (x.b + 1) 3 1 v1 (S.length + 1) (S ++ [u]) → (w.alloc o).grownBy w1 x.sv.ownBlock → (v1.ownBlock = x.sv.ownBlock ∨ v1.ownBlock = some (w.alloc o).heap.size) →
      XGActed w lo x ⟨x.b, x.lv, x.fv, v1⟩ l F (S ++ [u]) (w1.setCell ⟨x.b, 2, none⟩ v1) ∧ w1.cell? ⟨x.b, 2, none⟩ = some x.sv ∧ w1.frozen? ⟨x.b, 2, none⟩ = false := by
  intro v1 w1 hw hg ho
  obtain ⟨h1, h2, ⟨h3, h4, h5⟩, ⟨h6, h7, h8⟩, ⟨h9, h10⟩⟩ := h
  have hbl := (Array.getElem?_eq_some_iff.1 h2).1
  have hK : Kept (fun j => x.sv.ownBlock = some j) w w1 := ((Kept.refl _ w).alloc _).grown hg (fun r e => .inl e)
  have hb1 : w1.heap[x.b]? = some (.cells #[x.lv, x.fv, x.sv] 50 (0, 0)) := (hK.block _ hbl (fun e => by have := (h8 _ e).1; omega)).trans h2
  have hS : Kept (fun j => j = x.b) w1 (w1.setCell ⟨x.b, 2, none⟩ v1) := (Kept.refl (fun j => j = x.b) w1).setCell (p := ⟨x.b, 2, none⟩) (.inl rfl) _
  have hA := win_after hw (by omega) (by omega) ho
  have hsz : (w1.setCell ⟨x.b, 2, none⟩ v1).heap.size = w1.heap.size := by simp [World.setCell]
  have hs1 := hK.size
  have hlen : (S ++ [u]).length = S.length + 1 := by simp
  refine ⟨⟨rfl, ⟨h1, (block3_set hb1 v1).2.2, ⟨?_, ?_, ?_⟩, ⟨?_, ?_, ?_⟩, ⟨?_, ?_⟩⟩, ?_, hK.join hS (fun j hj => .inr (.inr (.inr hj))) (fun j _ e => .inl e)⟩, by simp [World.cell?, hb1], by simp [World.frozen?, hb1]⟩
  · exact (h3.blocks hK fun j hj e => (h9 j hj).2 e).blocks hS fun j hj e => by have := (h6 j hj).1; omega
  · exact (h4.blocks hK fun j hj e => h10 j hj e).blocks hS fun j hj e => by have := (h7 j hj).1; omega
  · rw [hlen]; exact hw.blocks hS fun j hj e => by have := (hA j hj).1.1; omega
  · exact fun j hj => ⟨(h6 j hj).1, by rw [hsz]; have := (h6 j hj).2; omega⟩
  · exact fun j hj => ⟨(h7 j hj).1, by rw [hsz]; have := (h7 j hj).2; omega⟩
  · exact fun j hj => ⟨(hA j hj).1.1, by rw [hsz]; exact (hA j hj).1.2⟩
  · intro j hj
    refine ⟨(h9 j hj).1, fun e => ?_⟩
    rcases (hA j e).2 with e2 | e2
    · exact (h9 j hj).2 e2
    · have := (h6 j hj).2; omega
  · intro j hj e
    rcases (hA j e).2 with e2 | e2
    · exact h10 j hj e2
    · have := (h7 j hj).2; omega
  · rintro j (rfl | hj | hj | hj)
    · exact .inl (.inl rfl)
    · exact .inl (.inr (.inl hj))
    · exact .inl (.inr (.inr (.inl hj)))
    · rcases (hA j hj).2 with e | e
      · exact .inl (.inr (.inr (.inr e)))
      · exact .inr e
theorem hf_at {H : List Pr} {i : Nat} (hi : i < H.length) : (hf H)[i]? = some (.int .i64 (H.getD i (0, 0)).1) := by
  unfold hf; rw [List.getElem?_map, List.getElem?_eq_getElem hi, List.getD_eq_getElem?_getD, List.getElem?_eq_getElem hi]; rfl
theorem hs_at {H : List Pr} {i : Nat} (hi : i < H.length) : (hs H)[i]? = some (.int .i64 (H.getD i (0, 0)).2) := by
  unfold hs; rw [List.getElem?_map, List.getElem?_eq_getElem hi, List.getD_eq_getElem?_getD, List.getElem?_eq_getElem hi]; rfl
/-- One number of the row is put. -/
theorem win_set {w : World} {base g off n c i : Nat} {xs : List Value} {u : Value} (h : Win w base 3 1 (.slice (some ⟨g, off, none⟩) n c) n xs) (hi : i < n) (hu : u.oneCell' = true) :
    Win (w.setCell ⟨g, off + i, none⟩ u) base 3 1 (.slice (some ⟨g, off, none⟩) n c) n (xs.set i u) ∧ w.frozen? ⟨g, off + i, none⟩ = false := by
  obtain ⟨h1, a, cap, he, ⟨h0, _⟩ | ⟨g', off', cur, rfl, hg, hh, h2, h3, h4, h5⟩⟩ := h
  · omega
  · cases he
    refine ⟨⟨by simpa using h1, _, _, rfl, .inr ⟨g, off, cur.setIfInBounds (off + i) u, rfl, hg, ?_, h2, h3, by simpa using h4, ?_⟩⟩, by simp [World.frozen?, hh]⟩
    · simp [World.setCell, Array.getElem?_modify, hh]
    · rw [Array.toList_setIfInBounds, List.drop_set, if_neg (by omega), List.take_set, h5]
      congr 1; omega
theorem xset_at {w : World} {lo : Nat} {x : XP} {l : List Wt} {H : List Pr} {sg so sc k : Nat} {f r : Int} (h : XAt w lo x l H) (hsv : x.sv = .slice (some ⟨sg, so, none⟩) H.length sc) (hk : k < H.length) (hfk : (H.getD k (0, 0)).1 = f) :
    XActed w lo x l (H.set k (f, r)) (w.setCell ⟨sg, so + k, none⟩ (.int .i64 r)) ∧ w.frozen? ⟨sg, so + k, none⟩ = false := by
  obtain ⟨h1, h2, ⟨h3, h4, h5⟩, ⟨h6, h7, h8⟩, ⟨h9, h10⟩, h11⟩ := h
  have hob : x.sv.ownBlock = some sg := by rw [hsv]; rfl
  have h5' := h5
  rw [hsv] at h5'
  obtain ⟨hw, hfz⟩ := win_set (u := .int .i64 r) h5' hk rfl
  have hS : Kept (fun j => j = sg) w (w.setCell ⟨sg, so + k, none⟩ (.int .i64 r)) := (Kept.refl (fun j => j = sg) w).setCell (p := ⟨sg, so + k, none⟩) (.inl rfl) _
  have hsz : (w.setCell ⟨sg, so + k, none⟩ (.int .i64 r)).heap.size = w.heap.size := by simp [World.setCell]
  have e1 : hf (H.set k (f, r)) = hf H := by
    unfold hf
    apply List.ext_getElem?
    intro j
    rw [List.getElem?_map, List.getElem?_map, List.getElem?_set]
    split
    · rename_i e
      subst e
      rw [List.getElem?_eq_getElem hk, ← hfk, List.getD_eq_getElem?_getD, List.getElem?_eq_getElem hk]; rfl
    · rfl
  have e2 : hs (H.set k (f, r)) = (hs H).set k (.int .i64 r) := by unfold hs; rw [List.map_set]
  have e3 : (H.set k (f, r)).map (·.1) = H.map (·.1) := by
    apply List.ext_getElem?
    intro j
    rw [List.getElem?_map, List.getElem?_map, List.getElem?_set]
    split
    · rename_i e
      subst e
      rw [List.getElem?_eq_getElem hk, ← hfk, List.getD_eq_getElem?_getD, List.getElem?_eq_getElem hk]; rfl
    · rfl
  have hsb := (h8 sg hob).1
  refine ⟨⟨x, rfl, ⟨h1, (hS.block _ (Array.getElem?_eq_some_iff.1 h2).1 (by omega)).trans h2, ⟨h3.blocks hS fun j hj e => ?_, ?_, ?_⟩, ⟨by rw [hsz]; exact h6, by rw [hsz]; exact h7, by rw [hsz]; exact h8⟩, ⟨h9, h10⟩, by rw [e3]; exact h11⟩, fun _ h => .inl h, hS.weaken fun j e => .inr (.inr (.inr (by rw [e]; exact hob)))⟩, hfz⟩
  · subst e; exact (h9 j hj).2 hob
  · rw [e1, List.length_set]
    exact h4.blocks hS fun j hj e => by subst e; exact h10 j hj hob
  · rw [e2, List.length_set, hsv]
    exact hw
def Heardd (w : World) (lo : Nat) (x : XP) (l : List Wt) (H : List Pr) (e : Ending) (w' : World) : Prop := e = .returned (.tuple #[]) ∧ XActed w lo x l H w'
theorem heard_found (x : XP) (lo : Nat) (l : List Wt) (H : List Pr) (f r : Int) (i : Nat) (w : World) (h : XAt w lo x l H) (hH : H.length ≤ 10000) (hi : i < H.length) (hfi : (H.getD i (0, 0)).1 = f) (hno : ∀ j, j < i → (H.getD j (0, 0)).1 ≠ f) :
    Calls Try.prog 21 #[.pointer (some ⟨x.b, 0, none⟩), .int .i64 f, .int .i64 r] w (Heardd w lo x l (hearP H f r)) := by
  have HE := Lib.hid (hearP_at (r := r) hi hfi hno)
  have HX := Lib.hid h
  have HNO := Lib.hid hno
  obtain ⟨fg, fo, fc, hfv, _, _, hfc⟩ := h.2.2.1.2.1.cell (by omega)
  obtain ⟨sg, so, sc, hsv, _, _, hsc⟩ := h.2.2.1.2.2.cell (by omega)
  have c1 : w.cell? ⟨x.b, 1, none⟩ = some (.slice (some ⟨fg, fo, none⟩) H.length fc) := by rw [← hfv]; simp [World.cell?, h.2.1]
  have c2 : w.cell? ⟨x.b, 2, none⟩ = some (.slice (some ⟨sg, so, none⟩) H.length sc) := by rw [← hsv]; simp [World.cell?, h.2.1]
  have HC : Hid (∀ j, j < H.length → w.cell? ⟨fg, fo + j, none⟩ = some (.int .i64 (H.getD j (0, 0)).1)) := by
    show ∀ j, _
    exact fun j hj => hfc _ _ (hf_at hj)
  have cs := hsc _ _ (hs_at hi)
  have HSV := Lib.hid hsv
  clear h hno hfv hsv hfc hsc
  obtain ⟨n, hn⟩ : ∃ n, n = H.length := ⟨_, rfl⟩
  have HN := Lib.hid hn
  rw [← hn] at c1 c2 hH hi HC
  clear hn
  go_enter Try.func21, Try.ntmps21
  go_wp2_with fail
  go_loop [6, 12] (fun _ iv => ∃ k : Nat, k ≤ i ∧ iv = .int .i64 k) (fun _ iv => i - (intOf iv).toNat)
  case atStart => exact ⟨0, Nat.zero_le _, rfl⟩
  case round =>
    obtain ⟨k, hk, rfl⟩ := hrel
    have d1 : decide ((k : Int) < (n : Int)) = true := decide_eq_true (by omega)
    have d1' : decide (k < n) = true := decide_eq_true (by omega)
    have ck := HC.out k (by omega)
    by_cases hlt : k < i
    · have d2 : ((H.getD k (0, 0)).1 == f) = false := by
        have := HNO.out k hlt
        simpa using this
      have hkn : k < n := by omega
      generalize (H.getD k (0, 0)).1 = y at *
      go_wp2_with fail
      go_round
      case rel => exact ⟨k + 1, by omega, by go_num⟩
      case measure => simp [intOf]; omega
    · obtain rfl : k = i := by omega
      rw [hfi] at ck
      have d2 : (f == f) = true := by simp
      by_cases hr : (H.getD k (0, 0)).2 < r
      · have d3 : decide ((H.getD k (0, 0)).2 < r) = true := decide_eq_true hr
        have HE2 : Hid (hearP H f r = H.set k (f, r)) := by
          show _ = _
          rw [HE.out, if_pos hr]
        obtain ⟨hact, hfz⟩ := xset_at (r := r) (k := k) (f := f) HX.out HSV.out (by rw [← HN.out]; exact hi) hfi
        have HACT := Lib.hid hact
        clear hact
        generalize (H.getD k (0, 0)).2 = y2 at *
        go_wp2_with fail
        refine bodyPost_ret (results_none rfl _ _ _) rfl ?_
        refine ⟨rfl, ?_⟩
        rw [HE2.out]
        exact HACT.out
      · have d3 : decide ((H.getD k (0, 0)).2 < r) = false := decide_eq_false hr
        have HE2 : Hid (hearP H f r = H) := by
          show _ = _
          rw [HE.out, if_neg hr]
          apply List.ext_getElem?
          intro j
          rw [List.getElem?_set]
          split
          · rename_i e
            subst e
            rw [if_pos (by rw [← HN.out]; exact hi), ← hfi, List.getD_eq_getElem?_getD, List.getElem?_eq_getElem (by rw [← HN.out]; exact hi)]; rfl
          · rfl
        generalize (H.getD k (0, 0)).2 = y2 at *
        go_wp2_with fail
        refine bodyPost_ret (results_none rfl _ _ _) rfl ?_
        refine ⟨rfl, ?_⟩
        rw [HE2.out]
        exact XActed.same HX.out
theorem heard_new (x : XP) (lo : Nat) (l : List Wt) (H : List Pr) (f r : Int) (w : World) (h : XAt w lo x l H) (hH : H.length ≤ 10000) (hno : ∀ j, j < H.length → (H.getD j (0, 0)).1 ≠ f) :
    Calls Try.prog 21 #[.pointer (some ⟨x.b, 0, none⟩), .int .i64 f, .int .i64 r] w (Heardd w lo x l (hearP H f r)) := by
  have HE := Lib.hid (hearP_new (r := r) hno)
  have HX := Lib.hid h
  have HNO := Lib.hid hno
  have hbl : x.b < w.heap.size := h.own_lt _ (.inl rfl)
  obtain ⟨fa, fc, hfv⟩ := h.2.2.1.2.1.slice
  obtain ⟨sa, sc, hsv⟩ := h.2.2.1.2.2.slice
  have HFV := Lib.hid hfv
  have HSV := Lib.hid hsv
  have c1 : w.cell? ⟨x.b, 1, none⟩ = some (.slice fa H.length fc) := by rw [← hfv]; simp [World.cell?, h.2.1]
  have HC : Hid (∀ j, j < H.length → ∃ fg fo, fa = some ⟨fg, fo, none⟩ ∧ w.cell? ⟨fg, fo + j, none⟩ = some (.int .i64 (H.getD j (0, 0)).1)) := by
    show ∀ j, _
    intro j hj
    obtain ⟨fg, fo, fc', hfv', _, _, hfc⟩ := h.2.2.1.2.1.cell (by omega)
    rw [hfv] at hfv'
    injection hfv' with e1 e2 e3
    exact ⟨fg, fo, e1, hfc _ _ (hf_at hj)⟩
  have HNODUP : Hid (((H ++ [(f, r)]).map (·.1)).Nodup) := by
    show List.Nodup _
    have := hearP_nodup h.2.2.2.2.2 f r
    rwa [hearP_new hno] at this
  obtain ⟨i0, hi, hz0, hz1, hz2⟩ := info_parts Try.info3
  have lf : (hf H).length = H.length := by simp [hf]
  have ls : (hs H).length = H.length := by simp [hs]
  have HWF : Hid (Win w (x.b + 1) 3 1 (.slice fa H.length fc) H.length (hf H)) := by
    show Win _ _ _ _ _ _ _
    have := h.2.2.1.2.1
    rwa [hfv] at this
  have HKF : Hid (∀ v1 w1, Win w1 (x.b + 1) 3 1 v1 (H.length + 1) (hf H ++ [.int .i64 f]) → (w.alloc (.cells #[.int .i64 f] 3)).grownBy w1 (Value.slice fa H.length fc).ownBlock → (v1.ownBlock = (Value.slice fa H.length fc).ownBlock ∨ v1.ownBlock = some (w.alloc (.cells #[.int .i64 f] 3)).heap.size) →
      XGActed w lo x ⟨x.b, x.lv, v1, x.sv⟩ l (hf H ++ [.int .i64 f]) (hs H) (w1.setCell ⟨x.b, 1, none⟩ v1) ∧ w1.cell? ⟨x.b, 1, none⟩ = some (.slice fa H.length fc) ∧ w1.frozen? ⟨x.b, 1, none⟩ = false ∧ w1.cell? ⟨x.b, 2, none⟩ = some (.slice sa H.length sc)) := by
    show ∀ v1 w1, _
    intro v1 w1 hw hg ho
    have := xfrom_key (xg_of h) v1 w1 (by rw [lf]; exact hw) (by rw [hfv]; exact hg) (by rw [hfv]; exact ho)
    obtain ⟨q1, q2, q3, q4⟩ := this
    rw [hfv] at q2
    rw [hsv] at q4
    exact ⟨q1, q2, q3, q4⟩
  have LS := Lib.hid ls
  clear h hno hfv hsv lf ls
  obtain ⟨n, hn⟩ : ∃ n, n = H.length := ⟨_, rfl⟩
  have HN := Lib.hid hn
  rw [← hn] at c1 hH HC HWF HKF HSV LS
  clear hn
  have h63 : n + 1 ≤ maxLen := by simp only [maxLen]; omega
  have h64 : (n + 1) * 8 ≤ 140737488355328 := by omega
  go_enter Try.func21, Try.ntmps21
  go_wp2_with fail
  go_loop [6, 12] (fun _ iv => ∃ k : Nat, k ≤ n ∧ iv = .int .i64 k) (fun _ iv => n - (intOf iv).toNat)
  case atStart => exact ⟨0, Nat.zero_le _, rfl⟩
  case round =>
    obtain ⟨k, hk, rfl⟩ := hrel
    by_cases hlt : k < n
    · have d1 : decide ((k : Int) < (n : Int)) = true := decide_eq_true (by omega)
      have d1' : decide (k < n) = true := decide_eq_true hlt
      obtain ⟨fg, fo, rfl, ck⟩ := HC.out k hlt
      have d2 : ((H.getD k (0, 0)).1 == f) = false := by
        have := HNO.out k (by rw [← HN.out]; exact hlt)
        simpa using this
      generalize (H.getD k (0, 0)).1 = y at *
      go_wp2_with fail
      go_round
      case rel => exact ⟨k + 1, by omega, by go_num⟩
      case measure => simp [intOf]; omega
    · have d1 : decide ((k : Int) < (n : Int)) = false := decide_eq_false (by omega)
      have d1' : decide (k < n) = false := decide_eq_false hlt
      go_upto_region 8 with (at_builtin; refine wpList_append_win _ rfl _ _ 22 rfl (x.b + 1) 3 i0 (.int .i64 0) 1 8 Try.underlying22 hi hz0 hz1 hz2 rfl (by decide) (.slice fa n fc) n (hf H) rfl (HWF.out.alloc _) ⟨w.heap.size, 0, none⟩ 1 1 [.int .i64 f] Nat.one_pos rfl rfl (cell_one_new _ _ _) (by simp [Value.oneCell']) h63 h64 (by simp; omega) ?_; intro v1 w1 hw1 hg1 ho1; obtain ⟨hA, c2, f2, c3⟩ := HKF.out v1 w1 hw1 hg1 ho1; obtain ⟨a1, k1, rfl⟩ := hw1.slice; have HA1 := Lib.hid hA; clear hA hw1 hg1 ho1)
      have hb2 : x.b < (w1.setCell ⟨x.b, 1, none⟩ (.slice a1 (n + 1) k1)).heap.size := by
        have := (Array.getElem?_eq_some_iff.1 HA1.out.2.1.2.1).1
        exact this
      have c4 : (w1.setCell ⟨x.b, 1, none⟩ (.slice a1 (n + 1) k1)).cell? ⟨x.b, 2, none⟩ = some (.slice sa n sc) := by
        have h1 := HA1.out.2.1.2.1
        have h2 := HSV.out
        simp only at h1
        rw [h2] at h1
        simp [World.cell?, h1]
      clear c1 c2 f2 c3
      generalize w1.setCell ⟨x.b, 1, none⟩ (.slice a1 (n + 1) k1) = w2 at *
      have HSW : Hid (Win w2 (x.b + 1) 3 1 (.slice sa n sc) n (hs H)) := by
        show Win _ _ _ _ _ _ _
        have h1 := HA1.out.2.1.2.2.1.2.2
        simp only at h1
        rwa [HSV.out, LS.out] at h1
      have HKS : Hid (∀ v1 w1, Win w1 (x.b + 1) 3 1 v1 (n + 1) (hs H ++ [.int .i64 r]) → (w2.alloc (.cells #[.int .i64 r] 3)).grownBy w1 (Value.slice sa n sc).ownBlock → (v1.ownBlock = (Value.slice sa n sc).ownBlock ∨ v1.ownBlock = some (w2.alloc (.cells #[.int .i64 r] 3)).heap.size) →
          XActed w lo x l (hearP H f r) (w1.setCell ⟨x.b, 2, none⟩ v1) ∧ w1.cell? ⟨x.b, 2, none⟩ = some (.slice sa n sc) ∧ w1.frozen? ⟨x.b, 2, none⟩ = false) := by
        show ∀ v1 w1, _
        intro v1 w1 hw hg ho
        have := xsaid_key HA1.out.2.1 v1 w1 (by rw [LS.out]; exact hw) (by simp only; rw [HSV.out]; exact hg) (by simp only; rw [HSV.out]; exact ho)
        obtain ⟨k1, k2, k3⟩ := this
        simp only at k2
        rw [HSV.out] at k2
        refine ⟨?_, k2, k3⟩
        obtain ⟨t1, t2, t3, t4⟩ := HA1.out.t k1
        rw [HE.out]
        refine ⟨_, t1, XG.at ?_ HNODUP.out, t3, t4⟩
        have e1 : hf (H ++ [(f, r)]) = hf H ++ [.int .i64 f] := by simp [hf]
        have e2 : hs (H ++ [(f, r)]) = hs H ++ [.int .i64 r] := by simp [hs]
        rw [e1, e2]; exact t2
      go_wp2_with (at_builtin; refine wpList_append_win _ rfl _ _ 22 rfl (x.b + 1) 3 i0 (.int .i64 0) 1 8 Try.underlying22 hi hz0 hz1 hz2 rfl (by decide) (.slice sa n sc) n (hs H) rfl (HSW.out.alloc _) ⟨w2.heap.size, 0, none⟩ 1 1 [.int .i64 r] Nat.one_pos rfl rfl (cell_one_new _ _ _) (by simp [Value.oneCell']) h63 h64 (by simp; omega) ?_; intro v3 w3 hw3 hg3 ho3; obtain ⟨hA, c5, f5⟩ := HKS.out v3 w3 hw3 hg3 ho3; obtain ⟨a3, k3, rfl⟩ := hw3.slice; have HA3 := Lib.hid hA; clear hA hw3 hg3 ho3)
      go_end0
      exact ⟨rfl, HA3.out⟩
theorem least (P : Nat → Prop) (n : Nat) : P n → ∃ i, i ≤ n ∧ P i ∧ ∀ j, j < i → ¬ P j := by
  induction n using Nat.strongRecOn with
  | ind n ih =>
    intro h
    by_cases hx : ∃ j, j < n ∧ P j
    · obtain ⟨j, hj, hp⟩ := hx
      obtain ⟨i, h1, h2⟩ := ih j hj hp
      exact ⟨i, by omega, h2⟩
    · exact ⟨n, Nat.le_refl _, h, fun j hj hp => hx ⟨j, hj, hp⟩⟩
theorem heard_at (x : XP) (lo : Nat) (l : List Wt) (H : List Pr) (f r : Int) (w : World) (h : XAt w lo x l H) (hH : H.length ≤ 10000) :
    Calls Try.prog 21 #[.pointer (some ⟨x.b, 0, none⟩), .int .i64 f, .int .i64 r] w (Heardd w lo x l (hearP H f r)) := by
  by_cases hm : ∃ i, i < H.length ∧ (H.getD i (0, 0)).1 = f
  · obtain ⟨i0, hi0, he0⟩ := hm
    obtain ⟨i, h1, h2, h3⟩ := least (fun i => (H.getD i (0, 0)).1 = f) i0 he0
    exact heard_found x lo l H f r i w h hH (by omega) h2 h3
  · exact heard_new x lo l H f r w h hH fun j hj e => hm ⟨j, hj, e⟩
end Go.Proofs.Ytbjhpifllgoffaa
