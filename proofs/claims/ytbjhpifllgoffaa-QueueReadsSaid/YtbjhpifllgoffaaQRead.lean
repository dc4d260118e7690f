/- The code's reads and the document's, side by side. -/
import Derived.Test.YtbjhpifllgoffaaDrop
import Derived.Test.YtbjhpifllgoffaaOpenA
namespace Go.Proofs.Ytbjhpifllgoffaa
open Go Go.RowKit Go.Maps
set_option linter.unusedVariables false
set_option linter.unusedSimpArgs false
set_option maxRecDepth 100000
set_option maxHeartbeats 2000000
/-- Both, the members' block, and an act's. -/
def QP (w : World) (s : Nat) (C : Array Value) (A : Nat) (D : Array Value) (W : World) (p : RP) (k : Nat) (m : Int → Option Int) (l : List Wt) (x : XP) (l2 : List Wt) (H : List Pr) : Prop :=
  RAt W (s + 1) p k m l ∧ XAt W (s + 1) x l2 H ∧ (∀ j, p.own j → ¬ x.own j) ∧ Below s w W ∧ W.heap[s]? = some (.cells C 32 (0, 0)) ∧ W.heap[A]? = some (.cells D 52 (0, 0)) ∧ ¬ p.own A ∧ ¬ x.own A
section
variable {w : World} {s : Nat} {C : Array Value} {A : Nat} {D : Array Value} {W w' : World} {p : RP} {k k' : Nat} {m m' : Int → Option Int} {l l' l2 l2' : List Wt} {x : XP} {H H' : List Pr}
theorem QP.slt (h : QP w s C A D W p k m l x l2 H) : s < W.heap.size := (Array.getElem?_eq_some_iff.1 h.2.2.2.2.1).1
theorem QP.alt (h : QP w s C A D W p k m l x l2 H) : A < W.heap.size := (Array.getElem?_eq_some_iff.1 h.2.2.2.2.2.1).1
theorem QP.r (h : QP w s C A D W p k m l x l2 H) (ha : RActed W (s + 1) p k' m' l' w') : ∃ q : RP, q.b = p.b ∧ QP w s C A D w' q k' m' l' x l2 H := by
  have hs := h.slt
  have hal := h.alt
  obtain ⟨h1, h2, h3, h4, h5, h6, h7, h8⟩ := h
  obtain ⟨q, hb, hm, hq, ho, hK⟩ := ha
  refine ⟨q, hb, hq, h2.kept hK fun j hj e => h3 j e hj, fun j hj hx => ?_, h4.trans (hK.below (by omega) fun j _ e => by have := h1.own_ge j e; omega), (hK.block _ hs fun e => by have := h1.own_ge s e; omega).trans h5, (hK.block _ hal h7).trans h6, fun e => ?_, h8⟩
  · rcases ho j hj with e | e
    · exact h3 j e hx
    · have := h2.own_lt j hx; omega
  · rcases ho A e with e | e
    · exact h7 e
    · omega
theorem QP.xx (h : QP w s C A D W p k m l x l2 H) (ha : XActed W (s + 1) x l2' H' w') : ∃ y : XP, y.b = x.b ∧ QP w s C A D w' p k m l y l2' H' := by
  have hs := h.slt
  have hal := h.alt
  obtain ⟨h1, h2, h3, h4, h5, h6, h7, h8⟩ := h
  obtain ⟨y, hb, hq, ho, hK⟩ := ha
  refine ⟨y, hb, h1.kept hK fun j hj e => h3 j hj e, hq, fun j hj hx => ?_, h4.trans (hK.below (by omega) fun j _ e => by have := h2.own_ge j e; omega), (hK.block _ hs fun e => by have := h2.own_ge s e; omega).trans h5, (hK.block _ hal h8).trans h6, h7, fun e => ?_⟩
  · rcases ho j hx with e | e
    · exact h3 j hj e
    · have := h1.own_lt j hj; omega
  · rcases ho A e with e | e
    · exact h8 e
    · omega
theorem QP.below (h : QP w s C A D W p k m l x l2 H) (hb : Below W.heap.size W w') : QP w s C A D w' p k m l x l2 H := by
  have hs := h.slt
  have hal := h.alt
  obtain ⟨h1, h2, h3, h4, h5, h6, h7, h8⟩ := h
  have hK : Kept (fun _ => False) W w' := Kept.of hb (Nat.le_refl _)
  exact ⟨h1.kept hK (fun _ _ h => h), h2.kept hK (fun _ _ h => h), h3, h4.trans (hb.mono (by omega)), (hb.block _ hs).trans h5, (hb.block _ hal).trans h6, h7, h8⟩
theorem QP.drewN (h : QP w s C A D W p k m l x l2 H) (n : Nat) : QP w s C A D (W.drewN n) p k m l x l2 H := h.below (below_drewN' (Below.refl _ _) n)
theorem QP.conf {a b : Value} (h : QP w s #[a, b] A D W p k m l x l2 H) : W.cell? ⟨s, 0, none⟩ = some a ∧ W.cell? ⟨s, 1, none⟩ = some b := by
  have := h.2.2.2.2.1
  exact ⟨by simp [World.cell?, this], by simp [World.cell?, this]⟩
theorem QP.act {a b c d : Value} (h : QP w s C A #[a, b, c, d] W p k m l x l2 H) : W.cell? ⟨A, 0, none⟩ = some a ∧ W.cell? ⟨A, 1, none⟩ = some b ∧ W.cell? ⟨A, 2, none⟩ = some c ∧ W.cell? ⟨A, 3, none⟩ = some d := by
  have := h.2.2.2.2.2.1
  exact ⟨by simp [World.cell?, this], by simp [World.cell?, this], by simp [World.cell?, this], by simp [World.cell?, this]⟩
/-- The calls, on what lies side by side. -/
theorem qadd (h : QP w s C A D W p k m l x l2 H) (hl : l.length ≤ 1000) (id ix rd : Int) :
    Calls Try.prog 14 #[.pointer (some ⟨p.b, 0, none⟩), .int .i64 id, .int .i64 ix, .int .i64 rd] W fun e w' => e = .returned (.bool (addB l rd)) ∧ ∃ q : RP, q.b = p.b ∧ QP w s C A D w' q k m (if addB l rd then l ++ [(id, ix, rd)] else l) x l2 H := by
  refine (add_at p (s + 1) k m l id ix rd W h.1 (by omega)).mono ?_
  rintro e w' ⟨rfl, ha⟩
  exact ⟨rfl, h.r ha⟩
theorem qxadd (h : QP w s C A D W p k m l x l2 H) (hl : l2.length ≤ 1000) (id ix rd : Int) :
    Calls Try.prog 20 #[.pointer (some ⟨x.b, 0, none⟩), .int .i64 id, .int .i64 ix, .int .i64 rd] W fun e w' => e = .returned (.bool (addB l2 rd)) ∧ ∃ y : XP, y.b = x.b ∧ QP w s C A D w' p k m l y (if addB l2 rd then l2 ++ [(id, ix, rd)] else l2) H := by
  refine (xadd_at x (s + 1) l2 H id ix rd W h.2.1 (by omega)).mono ?_
  rintro e w' ⟨rfl, ha⟩
  exact ⟨rfl, h.xx ha⟩
theorem qsaid (h : QP w s C A D W p k m l x l2 H) (hk : k ≤ 1000) (f r : Int) (hf : (Lit.int .i64 f).wf = true) (hr : (Lit.int .i64 r).wf = true) :
    Calls Try.prog 15 #[.pointer (some ⟨p.b, 0, none⟩), .int .i64 f, .int .i64 r] W fun e w' => e = .returned (.tuple #[]) ∧ ∃ q : RP, q.b = p.b ∧ QP w s C A D w' q (k + 1) (hear m f r) l x l2 H := by
  refine (said_at p (s + 1) k m l f r W h.1 (by omega) hf hr).mono ?_
  rintro e w' ⟨rfl, ha⟩
  exact ⟨rfl, h.r ha⟩
theorem qheard (h : QP w s C A D W p k m l x l2 H) (hH : H.length ≤ 1000) (f r : Int) :
    Calls Try.prog 21 #[.pointer (some ⟨x.b, 0, none⟩), .int .i64 f, .int .i64 r] W fun e w' => e = .returned (.tuple #[]) ∧ ∃ y : XP, y.b = x.b ∧ QP w s C A D w' p k m l y l2 (hearP H f r) := by
  refine (heard_at x (s + 1) l2 H f r W h.2.1 (by omega)).mono ?_
  rintro e w' ⟨rfl, ha⟩
  exact ⟨rfl, h.xx ha⟩
theorem qready {va : Option Addr} {vn vc : Nat} {V : List Int} {u : Value} (h : QP w s C A D W p k m l x l2 H) (hk : k ≤ 900) (hl : l.length ≤ 2000) (hs : w.heap.size ≤ s) (hV : Rd w va vn V) (hn : vn ≤ 1000) (hu : ∃ x y z, u = .slice x y z) (self : Int) :
    Calls Try.prog 16 #[.pointer (some ⟨p.b, 0, none⟩), .agg #[.slice va vn vc, u], .int .i64 self] W fun e w' => ∃ v, e = .returned v ∧ Rr w' v (l.take (rdyN (rdyF V m self) l)) ∧ (∀ j, v.ownBlock = some j → W.heap.size ≤ j) ∧ Kept (fun j => j = p.b) W w' ∧ ∃ q : RP, q.b = p.b ∧ QP w s C A D w' q k m (l.drop (rdyN (rdyF V m self) l)) x l2 H := by
  refine (ready_any p (s + 1) k m l va vn vc V u self W h.1 hk hl (hV.keep hs h.2.2.2.1) hn hu).mono ?_
  rintro e w' hr
  obtain ⟨v, he, hrow, ha⟩ := hr.act
  obtain ⟨v2, he2, _, _, _, _, _, _, hK⟩ := hr
  have hle := rdyN_le (rdyF V m self) l
  refine ⟨v, he, rr_own (by rw [List.length_take, Nat.min_eq_left hle]; exact hrow), fun j hj => own_blk hrow hj, hK, h.r ha⟩
theorem qxready {va : Option Addr} {vn vc : Nat} {V : List Int} {u : Value} (h : QP w s C A D W p k m l x l2 H) (hH : H.length ≤ 900) (hl : l2.length ≤ 2000) (hs : w.heap.size ≤ s) (hV : Rd w va vn V) (hn : vn ≤ 1000) (hvc : vn ≤ vc) (hu : ∃ x y z, u = .slice x y z) (self : Int) :
    Calls Try.prog 23 #[.pointer (some ⟨x.b, 0, none⟩), .agg #[.slice va vn vc, u], .int .i64 self] W fun e w' => ∃ v, e = .returned v ∧ Rx w' v (l2.take (rdyN (rdyF V (mOf H) self) l2)) ∧ (∀ j, v.ownBlock = some j → W.heap.size ≤ j) ∧ Kept (fun j => j = x.b) W w' ∧ ∃ y : XP, y.b = x.b ∧ QP w s C A D w' p k m l y (l2.drop (rdyN (rdyF V (mOf H) self) l2)) H := by
  refine (refready_at x (s + 1) l2 H va vn vc V u self W h.2.1 hl hH (hV.keep hs h.2.2.2.1) hn hvc hu).mono ?_
  rintro e w' ⟨v, he, hrow, y, hb, hX, ho, hK⟩
  have hle := rdyN_le (rdyF V (mOf H) self) l2
  refine ⟨v, he, rx_own (by rw [List.length_take, Nat.min_eq_left hle]; exact hrow), fun j hj => own_blk hrow hj, hK, h.xx ⟨y, hb, hX, fun j hj => .inl (ho j hj), hK.weaken fun j e => .inl e⟩⟩
theorem qdrop (h : QP w s C A D W p k m l x l2 H) (hl : l.length ≤ 2000) :
    Calls Try.prog 24 #[.pointer (some ⟨p.b, 0, none⟩)] W fun e w' => ∃ v, e = .returned v ∧ Rr w' v l ∧ (∀ j, v.ownBlock = some j → W.heap.size ≤ j ) ∧ ∃ q : RP, q.b = p.b ∧ QP w s C A D w' q 0 (fun _ => none) [] x l2 H := by
  refine (drop_any p (s + 1) k m l W h.1 hl).mono ?_
  rintro e w' ⟨v, he, hr, ho, ha⟩
  exact ⟨v, he, hr, ho, h.r ha⟩
theorem qxdrop (h : QP w s C A D W p k m l x l2 H) :
    Calls Try.prog 25 #[.pointer (some ⟨x.b, 0, none⟩)] W fun e w' => ∃ v, e = .returned v ∧ Rx w' v l2 ∧ Kept x.own W w' ∧ ∃ y : XP, y.b = x.b ∧ QP w s C A D w' p k m l y [] [] := by
  refine (xdrop_any x (s + 1) l2 H W h.2.1).mono ?_
  rintro e w' ⟨he, ha, hr⟩
  have hK := ha
  obtain ⟨_, _, _, _, hK⟩ := hK
  exact ⟨_, he, hr, hK, h.xx ha⟩
/-- Both, and the members' block. -/
def QB (w : World) (s : Nat) (C : Array Value) (W : World) (p : RP) (k : Nat) (m : Int → Option Int) (l : List Wt) (x : XP) (H : List Pr) : Prop :=
  RAt W (s + 1) p k m l ∧ XAt W (s + 1) x l H ∧ (∀ j, p.own j → ¬ x.own j) ∧ Below s w W ∧ W.heap[s]? = some (.cells C 32 (0, 0))
theorem QP.base (h : QP w s C A D W p k m l x l H) : QB w s C W p k m l x H := ⟨h.1, h.2.1, h.2.2.1, h.2.2.2.1, h.2.2.2.2.1⟩
theorem QB.act (h : QB w s C W p k m l x H) (D : Array Value) : QP w s C W.heap.size D (W.alloc (.cells D 52)) p k m l x l H := by
  obtain ⟨h1, h2, h3, h4, h5⟩ := h
  have hK : Kept (fun _ => False) W (W.alloc (.cells D 52)) := (Kept.refl _ W).alloc _
  have hs := (Array.getElem?_eq_some_iff.1 h5).1
  exact ⟨h1.kept hK (fun _ _ h => h), h2.kept hK (fun _ _ h => h), h3, h4.alloc (by omega) _, (Below.heap_alloc _ _ _ hs).trans h5, heap_alloc_new _ _, fun e => by have := h1.own_lt _ e; omega, fun e => by have := h2.own_lt _ e; omega⟩
theorem qb_start {w w1 : World} {s : Nat} {C : Array Value} {p : RP} (hs : s = w.heap.size) (hR : RAt w1 (w.alloc (.cells C 32)).heap.size p 0 (fun _ => none) []) (hB : Below (w.alloc (.cells C 32)).heap.size (w.alloc (.cells C 32)) w1) :
    QB w s C (w1.alloc (.cells #[.slice none 0 0, .slice none 0 0, .slice none 0 0] 50)) p 0 (mOf []) [] ⟨w1.heap.size, .slice none 0 0, .slice none 0 0, .slice none 0 0⟩ [] := by
  have hz : (w.alloc (.cells C 32)).heap.size = s + 1 := by simp [hs]
  rw [hz] at hR hB
  have hsz := hB.size
  rw [hz] at hsz
  have hK : Kept (fun _ => False) w1 (w1.alloc (.cells #[.slice none 0 0, .slice none 0 0, .slice none 0 0] 50)) := (Kept.refl _ w1).alloc _
  have hsb : w1.heap[s]? = some (.cells C 32 (0, 0)) := (hB.block _ (by omega)).trans (by rw [hs]; exact heap_alloc_new _ _)
  refine ⟨hR.kept hK (fun _ _ h => h), ⟨hsz, heap_alloc_new _ _, ⟨Win.nil _ _ _ _, Win.nil _ _ _ _, Win.nil _ _ _ _⟩, ⟨fun j hj => by simp [Value.ownBlock] at hj, fun j hj => by simp [Value.ownBlock] at hj, fun j hj => by simp [Value.ownBlock] at hj⟩, ⟨fun j hj => by simp [Value.ownBlock] at hj, fun j hj => by simp [Value.ownBlock] at hj⟩, by simp⟩, fun j hj e => ?_, ?_, (Below.heap_alloc _ _ _ (by omega)).trans hsb⟩
  · have h1 := hR.own_lt j hj
    rcases e with e | e | e | e
    · simp only at e; omega
    · simp [Value.ownBlock] at e
    · simp [Value.ownBlock] at e
    · simp [Value.ownBlock] at e
  · subst hs
    exact (((Below.refl _ w).alloc (Nat.le_refl _) _).trans (hB.mono (by omega))).alloc (by omega) _
theorem QP.base9 (h : QP w s C A D W p k m l x l H) (n : Nat) : QB w s C (W.drewN n) p k m l x H := (h.drewN n).base
end
end Go.Proofs.Ytbjhpifllgoffaa
