/- Two logs that are made, and what a Match tells of each. -/
import Derived.Test.YtbgfpmnicpmieaaEMatPlain
namespace Go.Proofs.Ytbgfpmnicpmieaa
open Go Go.RowKit
set_option linter.unusedVariables false
set_option linter.unusedSimpArgs false
set_option maxRecDepth 100000
set_option maxHeartbeats 1000000
/-- A log that is made, or none. -/
def NewQ (w0 w' : World) (ix tm : Int) (n : Nat) (es : List Ent) (p : Option Addr) : Prop :=
  (newB ix tm es = false ∧ p = none) ∨ (newB ix tm es = true ∧ ∃ b a c, p = some ⟨b, 0, none⟩ ∧ LG w' w0.heap.size b ⟨ix, tm, a, n, c, ix, ix, ix + n, true⟩ es)
theorem NewQ.below {w0 w w' : World} {ix tm n es p} {m : Nat} (h : NewQ w0 w ix tm n es p) (hm : w.heap.size ≤ m) (hb : Below m w w') : NewQ w0 w' ix tm n es p := by
  rcases h with h | ⟨h1, b, a, c, h2, h3⟩
  · exact .inl h
  · exact .inr ⟨h1, b, a, c, h2, h3.below hm hb⟩
theorem new_from (w0 : World) (ix tm : Int) (a : Option Addr) (n c : Nat) (es : List Ent) (W : World) (h : ER w0 a n es) (hk : EKs w0 es) (hn : n * 168 ≤ 140737488355328) (hW : Below w0.heap.size w0 W) :
    Calls Try.prog 11 #[.int .i64 ix, .int .i64 tm, .slice a n c] W fun e w' => ∃ p, e = .returned (.pointer p) ∧ NewQ W w' ix tm n es p ∧ Below W.heap.size W w' ∧ Below w0.heap.size w0 w' ∧ w0.heap.size ≤ W.heap.size := by
  refine (new_any ix tm a n c es W (h.keep (Nat.le_refl _) hW) (hk.keep (Nat.le_refl _) hW) hn).mono ?_
  rintro e w' (⟨h1, rfl, hb⟩ | ⟨h1, b, a', c', rfl, hB, hO, hbw, hb⟩)
  · exact ⟨_, rfl, .inl ⟨h1, rfl⟩, hb, hW.trans (hb.mono hW.size), hW.size⟩
  · exact ⟨_, rfl, .inr ⟨h1, b, a', c', rfl, ⟨hB, hO, hbw⟩⟩, hb, hW.trans (hb.mono hW.size), hW.size⟩
theorem mat_zero {a : Option Addr} {n c : Nat} {es ys : List Ent} (hl : es.length = n) : matOk ⟨0, 0, a, n, c, 0, 0, 0 + n, true⟩ es 0 0 ys = chainB 0 0 ys := by
  rw [matOk, termF_at hl (by dsimp only; omega) (by dsimp only; omega)]
  simp [tmAt]
/-- What the law needs of one Match: its answer, by the entries alone; and that all of them are there. -/
def One (w : World) (m b : Nat) (l0 : Lg) (ys : List Ent) (k : Nat) (e : Ending) (w' : World) : Prop :=
  Kept (· = b) w w' ∧ (chainB 0 0 ys = false ∧ e = .returned (.tuple #[.int .i64 0, .bool false]) ∨
    chainB 0 0 ys = true ∧ e = .returned (.tuple #[.int .i64 k, .bool true]) ∧ ∃ l es, LG w' m b l es ∧ (∀ j, gOf l = some j → w.heap.size ≤ j ∨ gOf l0 = some j) ∧ Ok l (pts es) ∧ ∀ j, j < ys.length → termF l (pts es) (j + 1) = ((ys.getD j default).t, 0))
theorem match_one (w : World) (m b : Nat) (a : Option Addr) (n c : Nat) (es : List Ent) (a2 : Option Addr) (n2 c2 : Nat) (ys : List Ent) (hg : LG w m b ⟨0, 0, a, n, c, 0, 0, 0 + n, true⟩ es) (hc : chainB 0 0 es = true) (hn : n ≤ 200) (hy : ER w a2 n2 ys) (hk : EKs w ys) (hn2 : n2 ≤ 200) (hc2 : n2 ≤ c2) :
    Calls Try.prog 12 #[.pointer (some ⟨b, 0, none⟩), .int .i64 0, .int .i64 0, .slice a2 n2 c2] w (One w m b ⟨0, 0, a, n, c, 0, 0, 0 + n, true⟩ ys n2) := by
  have hl := hg.len
  have hyl := hy.1
  have ho : Ok ⟨0, 0, a, n, c, 0, 0, 0 + n, true⟩ (pts es) := ok_of hc (by omega) (by omega) hl (by omega)
  refine (match_any m b _ es a2 n2 c2 ys 0 0 w hg ho hy hk (by omega) hc2).mono ?_
  intro e w' h
  rw [MatchP, mat_zero hl] at h
  rcases h with ⟨h1, he, h3, h4⟩ | ⟨h1, h2, he, h3, h4⟩ | ⟨h1, h2, h3, _⟩ | ⟨h1, h2, h3, he, a', c', h4, h5, h6⟩
  · exact ⟨Kept.of h4 (Nat.le_refl _), .inl ⟨h1, he⟩⟩
  · have hm := mat_parts (index := 0) (term := 0) (ys := ys) hl ((mat_zero hl).trans h1)
    refine ⟨Kept.of h4 (Nat.le_refl _), .inr ⟨h1, by rw [he]; simp, _, es, h3, fun j hj => .inr hj, ho, fun j hj => ?_⟩⟩
    have hh := hm.hi
    dsimp only at hh
    have hs := hm.same j (by omega)
    rw [termF_at hl (by dsimp only; omega) (by dsimp only; omega), hs]
    dsimp only
    congr 2
    omega
  · dsimp only at h3
    omega
  · have hm := mat_parts (index := 0) (term := 0) (ys := ys) hl ((mat_zero hl).trans h1)
    rw [← hyl] at h2
    have hch := mat_chain hl hc hm h2
    have hlen := matE_len hl hm h2
    have hmh := hm.hi
    dsimp only at hmh
    refine ⟨h6, .inr ⟨h1, by rw [he]; simp, _, _, h4, fun j hj => .inl (h5 j hj), ?_, fun j hj => ?_⟩⟩
    · refine ok_of hch (by dsimp only; omega) (by dsimp only; omega) (h4.len) ?_
      dsimp only
      have := h4.len
      rw [hlen] at this
      dsimp only [matL] at this
      omega
    · have := mat_tm hl hm j hj h2
      have h7 := h4.len
      rw [termF_at h7 (by dsimp only [matL]; omega) ?_]
      · dsimp only [matL] at this ⊢
        rw [← this]
        congr 2
        omega
      · rw [hlen] at h7
        dsimp only [matL] at h7 ⊢
        omega
/-- Two logs that were made one behind the other. -/
def XY (w0 wx : World) (n0 : Nat) (es0 : List Ent) (n1 : Nat) (es1 : List Ent) (p1 p2 : Option Addr) : Prop :=
  Below w0.heap.size w0 wx ∧ ∃ s, w0.heap.size ≤ s ∧
    (newB 0 0 es0 = false ∧ p1 = none ∨ newB 0 0 es0 = true ∧ ∃ b a c, p1 = some ⟨b, 0, none⟩ ∧ LG wx w0.heap.size b ⟨0, 0, a, n0, c, 0, 0, 0 + n0, true⟩ es0 ∧ b < s ∧ ∀ j, gOf ⟨0, 0, a, n0, c, 0, 0, 0 + n0, true⟩ = some j → j < s) ∧
    (newB 0 0 es1 = false ∧ p2 = none ∨ newB 0 0 es1 = true ∧ ∃ b a c, p2 = some ⟨b, 0, none⟩ ∧ LG wx s b ⟨0, 0, a, n1, c, 0, 0, 0 + n1, true⟩ es1)
theorem LG.low {w m m' b l es} (h : LG w m b l es) (hm : m' ≤ m) : LG w m' b l es := ⟨h.lb, own_mono h.own hm, Nat.le_trans hm h.mb⟩
theorem xy_of {w0 W1 Wa Wc : World} {n0 n1 : Nat} {es0 es1 : List Ent} {p1 p2 : Option Addr} (h1 : NewQ W1 Wa 0 0 n0 es0 p1) (h2 : w0.heap.size ≤ W1.heap.size) (h3 : Below W1.heap.size W1 Wa) (h4 : NewQ Wa Wc 0 0 n1 es1 p2) (h5 : Below Wa.heap.size Wa Wc) (h6 : Below w0.heap.size w0 Wc) : XY w0 Wc n0 es0 n1 es1 p1 p2 := by
  refine ⟨h6, Wa.heap.size, Nat.le_trans h2 h3.size, ?_, ?_⟩
  · rcases h1 with h | ⟨g1, b, a, c, g2, g3⟩
    · exact .inl h
    · exact .inr ⟨g1, b, a, c, g2, (g3.below (Nat.le_refl _) h5).low h2, g3.lb.lt, fun j hj => (g3.lt hj).2⟩
  · rcases h4 with h | ⟨g1, b, a, c, g2, g3⟩
    · exact .inl h
    · exact .inr ⟨g1, b, a, c, g2, g3⟩
theorem XY.drew {w0 wx : World} {n0 es0 n1 es1 p1 p2} (h : XY w0 wx n0 es0 n1 es1 p1 p2) : XY w0 wx.drew n0 es0 n1 es1 p1 p2 := by
  obtain ⟨h1, s, h2, h3, h4⟩ := h
  have hb : Below wx.heap.size wx wx.drew := (Below.refl _ _).drew
  refine ⟨h1.drew, s, h2, ?_, ?_⟩
  · rcases h3 with h | ⟨g1, b, a, c, g2, g3, g4⟩
    · exact .inl h
    · exact .inr ⟨g1, b, a, c, g2, g3.below (Nat.le_refl _) hb, g4⟩
  · rcases h4 with h | ⟨g1, b, a, c, g2, g3⟩
    · exact .inl h
    · exact .inr ⟨g1, b, a, c, g2, g3.below (Nat.le_refl _) hb⟩
end Go.Proofs.Ytbgfpmnicpmieaa
