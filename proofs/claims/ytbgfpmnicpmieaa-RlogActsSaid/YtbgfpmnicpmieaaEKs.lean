/- The state of the law on what is kept. -/
import Derived.Test.YtbgfpmnicpmieaaEKeep
namespace Go.Proofs.Ytbgfpmnicpmieaa
open Go Go.RowKit
set_option linter.unusedVariables false
set_option linter.unusedSimpArgs false
set_option maxRecDepth 100000
set_option maxHeartbeats 1000000
structure KS (w0 w : World) (b rb : Nat) (l : Lg) (es : List Ent) (cnt : Nat) : Prop where
  two : Two w w0.heap.size b l es rb zL []
  inv : Inv l es
  kn : Kn w0 w0.heap.size w es
  n1 : l.n ≤ 200 + cnt
  n2 : l.ix + l.n ≤ 1099511627976 + cnt
theorem KS.low {w0 w b rb l es cnt} (h : KS w0 w b rb l es cnt) : Below w0.heap.size w0 w := h.kn.hb
theorem KS.below {w0 w w' b rb l es cnt} {k : Nat} (h : KS w0 w b rb l es cnt) (hk : w.heap.size ≤ k) (hb : Below k w w') : KS w0 w' b rb l es cnt :=
  ⟨h.two.below hk hb, h.inv, h.kn.below (hb.mono (Nat.le_trans h.kn.hb.size hk)), h.n1, h.n2⟩
theorem KS.more {w0 w b rb l es c d} (h : KS w0 w b rb l es c) (hd : c ≤ d) : KS w0 w b rb l es d := ⟨h.two, h.inv, h.kn, by have := h.n1; omega, by have := h.n2; omega⟩
theorem KS.step {w0 w w' b rb l es cnt l' es' ys q d} (h : KS w0 w b rb l es cnt) (ht : Two w' w0.heap.size b l' es' rb zL []) (hl : Loc w w' b l l' rb zL zL) (hs : Stp l es ys q l' es') (hy : Kn w0 w0.heap.size w ys) (hd : d = cnt + q) : KS w0 w' b rb l' es' d := by
  have hb := h.two.low hl
  have a1 := hs.n1; have a2 := hs.n2; have b1 := h.n1; have b2 := h.n2
  refine ⟨ht, hs.inv, ⟨fun x hx => ?_, fun x hx => ?_, Nat.le_refl _, h.kn.hb.trans hb⟩, by omega, by omega⟩
  · rcases hs.mem x hx with h1 | h1
    · exact h.kn.ek x h1
    · exact hy.ek x h1
  · rcases hs.mem x hx with h1 | h1
    · exact h.kn.lt x h1
    · exact hy.lt x h1
theorem kn_of {w0 w : World} {es : List Ent} (h : EKs w0 es) (hl : Light es es.length) (hb : Below w0.heap.size w0 w) : Kn w0 w0.heap.size w es :=
  ⟨h, fun x hx => by
    obtain ⟨j, hj, rfl⟩ := List.getElem_of_mem hx
    have := hl j hj
    rw [List.getD_eq_getElem?_getD, List.getElem?_eq_getElem hj] at this
    have h2 : es[j].vn ≤ 200 ∧ es[j].ln ≤ 200 := this
    omega, Nat.le_refl _, hb⟩
theorem ks_new {w0 w : World} {b ix tm a n c es} (hg : LG w w0.heap.size b ⟨ix, tm, a, n, c, ix, ix, ix + n, true⟩ es) (hn : newB ix tm es = true) (hs : es.length ≤ 200) (hk : EKs w0 es) (hl : Light es es.length) (hb : Below w0.heap.size w0 w) :
    KS w0 (w.alloc (.cells #[.int .i64 0, .int .i64 0, .slice none 0 0, .int .i64 0, .int .i64 0, .int .i64 0] 57)) b w.heap.size ⟨ix, tm, a, n, c, ix, ix, ix + n, true⟩ es 0 := by
  obtain ⟨p1, p2, p3, p4⟩ := new_parts hn
  have hlen := hg.len
  dsimp only at hlen
  have hbs := hg.lb.lt
  have LA : Below w.heap.size w (w.alloc (.cells #[.int .i64 0, .int .i64 0, .slice none 0 0, .int .i64 0, .int .i64 0, .int .i64 0] 57)) := (Below.refl _ w).alloc (Nat.le_refl _) _
  refine ⟨⟨hg.below (Nat.le_refl _) LA, ⟨RB.new w zL, World.ownsRow_nil _ _ _ _, hb.size⟩, by omega, fun j hj => ⟨by have := (hg.lt hj).2; omega, by intro e; cases e⟩, fun j hj => by cases hj⟩, ⟨ok_of p4 p1 (by omega) hlen (by omega), p4, ?_, ?_, ?_, ?_, ?_, ?_⟩, kn_of hk hl (hb.trans (LA.mono hb.size)), by dsimp only; omega, by dsimp only; omega⟩ <;> dsimp only <;> omega
/-- What is committed, entry by entry. -/
theorem slc_com {l : Lg} {es : List Ent} (h : Inv l es) : slcE l es (l.ix + 1) (l.com - l.ix) = es.take (l.com - l.ix).toNat := by
  have a1 := h.a1; have a2 := h.a2
  rw [slcE, if_neg (by omega), show (l.ix + 1 - l.ix - 1).toNat = 0 by omega, List.drop_zero]
  split
  · rw [show (l.com - l.ix).toNat = 0 by omega]; simp
  · rfl
theorem slc_all {l : Lg} {es : List Ent} (h : Inv l es) : slcE l es (l.ix + 1) 10000 = es := by
  have hs := h.ok.small
  have hel : es.length = l.n := by have := h.ok.len; rwa [pts_len] at this
  rw [slcE, if_neg (by omega), if_neg (by omega), show (l.ix + 1 - l.ix - 1).toNat = 0 by omega, List.drop_zero, List.take_of_length_le (by omega)]
theorem slc_one {l : Lg} {es : List Ent} (h : Inv l es) {i : Int} (h1 : l.ix < i) (h2 : i ≤ l.ix + l.n) : slcE l es i 1 = [es.getD (i - l.ix - 1).toNat default] := by
  have hel : es.length = l.n := by have := h.ok.len; rwa [pts_len] at this
  have hlt : (i - l.ix - 1).toNat < es.length := by omega
  rw [slcE, if_neg (by omega), if_neg (by omega), drop_cons hlt]
  rfl
theorem ent_i {l : Lg} {es : List Ent} (h : Inv l es) {j : Nat} (hj : j < es.length) : (es.getD j default).i = l.ix + 1 + j := chain_row h.ch j hj
theorem ent_t {l : Lg} {es : List Ent} (h : Inv l es) {j : Nat} (hj : j < es.length) : tmAt l.tm es j ≤ (es.getD j default).t := ((chain_iff _ _ _).1 h.ch j hj).2.2
end Go.Proofs.Ytbgfpmnicpmieaa
