/- Reads, the waits and what was heard, side by side. -/
import Derived.Test.YtbjhpifllgoffaaWaitP
namespace Go.Proofs.Ytbjhpifllgoffaa
open Go Go.RowKit Go.Maps Go.Conc
set_option linter.unusedVariables false
set_option linter.unusedSimpArgs false
set_option maxRecDepth 100000
set_option maxHeartbeats 2000000
def WS (w : World) (s : Nat) (C : Array Value) (wr : World) (p : RP) (k : Nat) (m : Int → Option Int) (l : List Wt) (wv : Value) (ws : List Int) (hv : Value) (H : List (Int × Int)) : Prop :=
  RAt wr (s + 1) p k m l ∧ Win wr (s + 1) 3 1 wv ws.length (ws.map (Value.int .i64)) ∧ Win wr (s + 1) 3 1 hv (2 * H.length) (hcs H) ∧ (∀ j, wv.ownBlock = some j → s + 1 ≤ j ∧ j < wr.heap.size ∧ ¬ p.own j) ∧
    (∀ j, hv.ownBlock = some j → s + 1 ≤ j ∧ j < wr.heap.size ∧ ¬ p.own j ∧ wv.ownBlock ≠ some j) ∧ Below s w wr ∧ wr.heap[s]? = some (.cells C 32 (0, 0))
section
variable {w : World} {s : Nat} {C : Array Value} {wr w' w2 : World} {p : RP} {k k' : Nat} {m m' : Int → Option Int} {l l' : List Wt} {wv hv v' : Value} {ws : List Int} {H : List (Int × Int)}
theorem WS.slt (h : WS w s C wr p k m l wv ws hv H) : s < wr.heap.size := (Array.getElem?_eq_some_iff.1 h.2.2.2.2.2.2).1
theorem WS.acted (h : WS w s C wr p k m l wv ws hv H) (ha : RActed wr (s + 1) p k' m' l' w') : ∃ q : RP, q.b = p.b ∧ WS w s C w' q k' m' l' wv ws hv H := by
  have hs := h.slt
  obtain ⟨h1, h2, h3, h4, h5, h6, h7⟩ := h
  obtain ⟨q, hb, hm, hq, ho, hK⟩ := ha
  have hge := h1.own_ge
  refine ⟨q, hb, hq, h2.blocks hK fun j hj => (h4 j hj).2.2, h3.blocks hK fun j hj => (h5 j hj).2.2.1, fun j hj => ?_, fun j hj => ?_, h6.trans (hK.below (by omega) fun j _ hj => by have := hge j hj; omega), ?_⟩
  · obtain ⟨a, b, c⟩ := h4 j hj
    refine ⟨a, Nat.lt_of_lt_of_le b hK.size, fun e => ?_⟩
    rcases ho j e with e | e
    · exact c e
    · omega
  · obtain ⟨a, b, c, d⟩ := h5 j hj
    refine ⟨a, Nat.lt_of_lt_of_le b hK.size, fun e => ?_, d⟩
    rcases ho j e with e | e
    · exact c e
    · omega
  · exact (hK.block _ hs (fun e => by have := hge s e; omega)).trans h7
theorem WS.below (h : WS w s C wr p k m l wv ws hv H) (hb : Below wr.heap.size wr w') : WS w s C w' p k m l wv ws hv H := by
  have hs := h.slt
  obtain ⟨h1, h2, h3, h4, h5, h6, h7⟩ := h
  have hK : Kept (fun _ => False) wr w' := Kept.of hb (Nat.le_refl _)
  exact ⟨h1.kept hK (fun _ _ h => h), h2.blocks hK (fun _ _ h => h), h3.blocks hK (fun _ _ h => h), fun j hj => ⟨(h4 j hj).1, Nat.lt_of_lt_of_le (h4 j hj).2.1 hb.size, (h4 j hj).2.2⟩,
    fun j hj => ⟨(h5 j hj).1, Nat.lt_of_lt_of_le (h5 j hj).2.1 hb.size, (h5 j hj).2.2⟩, h6.trans (hb.mono (by omega)), (hb.block _ hs).trans h7⟩
theorem win_blk {W : World} {base : Nat} {e : TypeId} {size n : Nat} {v : Value} {xs : List Value} (h : Win W base e size v n xs) (hn : 0 < n) (hsz : 0 < size) : ∀ j, v.ownBlock = some j → base ≤ j ∧ j < W.heap.size := by
  intro j hj
  obtain ⟨g, off, cap, rfl, hg, hnc, hc⟩ := h.cell hn
  have e : g = j := by simpa [Value.ownBlock] using hj
  subst e
  have hl := h.1
  have : 0 < n * size := Nat.mul_pos hn hsz
  exact ⟨hg, cell_block_lt (hc 0 _ (List.getElem?_eq_getElem (by omega)))⟩
theorem WS.waits (h : WS w s C wr p k m l wv ws hv H) {o : Obj} {x : Int} (hw : Win w2 (s + 1) 3 1 v' (ws.length + 1) (ws.map (Value.int .i64) ++ [.int .i64 x])) (hg : (wr.alloc o).grownBy w2 wv.ownBlock) (ho : v'.ownBlock = wv.ownBlock ∨ v'.ownBlock = some (wr.alloc o).heap.size) :
    WS w s C w2 p k m l v' (ws ++ [x]) hv H := by
  have hs := h.slt
  obtain ⟨h1, h2, h3, h4, h5, h6, h7⟩ := h
  have hz : (wr.alloc o).heap.size = wr.heap.size + 1 := by simp
  have hK : Kept (fun j => wv.ownBlock = some j) wr w2 := ((Kept.refl _ wr).alloc o).grown hg (fun r e => .inl e)
  have hsz := hK.size
  have hb := win_blk hw (by omega) (by omega)
  refine ⟨h1.kept hK fun j hj e => (h4 j e).2.2 hj, by simpa using hw, h3.blocks hK fun j hj => (h5 j hj).2.2.2, fun j hj => ⟨(hb j hj).1, (hb j hj).2, ?_⟩, fun j hj => ?_, h6.trans (hK.below (by omega) fun j _ e => by have := (h4 j e).1; omega), (hK.block _ hs fun e => by have := (h4 _ e).1; omega).trans h7⟩
  · rcases ho with e | e
    · rw [e] at hj; exact (h4 j hj).2.2
    · rw [e, hz] at hj; injection hj with hj
      intro hp
      have := h1.own_lt j hp
      omega
  · obtain ⟨a, b, c, d⟩ := h5 j hj
    refine ⟨a, by omega, c, ?_⟩
    rcases ho with e | e
    · rw [e]; exact d
    · rw [e, hz]; intro e2; injection e2 with e2; omega
theorem WS.heards (h : WS w s C wr p k m l wv ws hv H) {o : Obj} {x : Int × Int} (hw : Win w2 (s + 1) 3 1 v' (2 * H.length + 2) (hcs H ++ [.int .i64 x.1, .int .i64 x.2])) (hg : (wr.alloc o).grownBy w2 hv.ownBlock) (ho : v'.ownBlock = hv.ownBlock ∨ v'.ownBlock = some (wr.alloc o).heap.size) :
    WS w s C w2 p k m l wv ws v' (H ++ [x]) := by
  have hs := h.slt
  obtain ⟨h1, h2, h3, h4, h5, h6, h7⟩ := h
  have hz : (wr.alloc o).heap.size = wr.heap.size + 1 := by simp
  have hK : Kept (fun j => hv.ownBlock = some j) wr w2 := ((Kept.refl _ wr).alloc o).grown hg (fun r e => .inl e)
  have hsz := hK.size
  have hb := win_blk hw (by omega) (by omega)
  refine ⟨h1.kept hK fun j hj e => (h5 j e).2.2.1 hj, h2.blocks hK fun j hj e => (h5 j e).2.2.2 hj, ?_, fun j hj => ⟨(h4 j hj).1, by have := (h4 j hj).2.1; omega, (h4 j hj).2.2⟩, fun j hj => ⟨(hb j hj).1, (hb j hj).2, ?_⟩, h6.trans (hK.below (by omega) fun j _ e => by have := (h5 j e).1; omega), (hK.block _ hs fun e => by have := (h5 _ e).1; omega).trans h7⟩
  · rw [hcs_snoc]
    have e : 2 * (H ++ [x]).length = 2 * H.length + 2 := by simp; omega
    rw [e]; exact hw
  · rcases ho with e | e
    · rw [e] at hj; exact (h5 j hj).2.2
    · rw [e, hz] at hj; injection hj with hj
      refine ⟨fun hp => ?_, fun e2 => ?_⟩
      · have := h1.own_lt j hp
        omega
      · have := (h4 j e2).2.1
        omega
end
theorem wf_row {w : World} {a : Option Addr} {n c : Nat} {z : List Int} (h : IsRow w a n c z) : ∀ x ∈ z, (Lit.int .i64 x).wf = true := by
  rcases h with ⟨_, _, _, h⟩ | ⟨_, _, _, _, _, _, h⟩
  · rw [h]; intro x hx; cases hx
  · exact h
theorem cap_row {w : World} {a : Option Addr} {n c : Nat} {z : List Int} (h : IsRow w a n c z) : n ≤ c := by
  rcases h with ⟨_, h1, h2, _⟩ | ⟨_, _, h, _⟩
  · omega
  · exact h
theorem ws_start {w w1 : World} {s : Nat} {C : Array Value} {p : RP} (hs : s = w.heap.size) (hp : p.b = (w.alloc (.cells C 32)).heap.size + 1) (hR : RAt w1 (w.alloc (.cells C 32)).heap.size p 0 (fun _ => none) []) (hB : Below (w.alloc (.cells C 32)).heap.size (w.alloc (.cells C 32)) w1) :
    WS w s C w1 p 0 (fun _ => none) [] (.slice none 0 0) [] (.slice none 0 0) [] := by
  have hz : (w.alloc (.cells C 32)).heap.size = s + 1 := by simp [hs]
  rw [hz] at hR hB
  refine ⟨hR, Win.nil _ _ _ _, Win.nil _ _ _ _, fun j hj => by simp [Value.ownBlock] at hj, fun j hj => by simp [Value.ownBlock] at hj, ?_, ?_⟩
  · subst hs
    exact ((Below.refl _ w).alloc (Nat.le_refl _) _).trans (hB.mono (by omega))
  · refine (hB.block _ (by omega)).trans ?_
    rw [hs]; exact heap_alloc_new _ _
theorem row2_at {w : World} {base n i : Nat} {v : Value} {l : List Wt} (h : w.ownsRow base 41 2 v n (rcs l)) (hl : l.length = n) (hi : i < n) :
    ∃ g cap, v = .slice (some ⟨g, 0, none⟩) n cap ∧ w.cell? ⟨g, i * 2, none⟩ = some (.int .i64 (l.getD i (0, 0, 0)).1) ∧ w.cell? ⟨g, i * 2 + 1, none⟩ = some (.int .i64 (l.getD i (0, 0, 0)).2.1) := by
  have h0 := h
  rcases h.2 with ⟨_, e⟩ | ⟨g, cap, cur, rfl, hb, hg, h2, h3, h4, h5⟩
  · omega
  · have hc := h0.cells (g := g) rfl
    have e0 := hc (i * 2 + 0) _ (rcs_at l i 0 (by omega) (by omega))
    have e1 := hc (i * 2 + 1) _ (rcs_at l i 1 (by omega) (by omega))
    rw [Addr.add_lit] at e0 e1
    exact ⟨g, cap, rfl, by simpa using e0, by simpa using e1⟩
theorem RActed.of_ready {w w' : World} {lo : Nat} {p0 : RP} {k : Nat} {m : Int → Option Int} {l : List Wt} {f : Int → Bool} {e : Ending} (h : Ready w lo p0 k m l f e w') :
    ∃ v, e = .returned v ∧ w'.ownsRow w.heap.size 41 2 v (rdyN f l) (rcs (l.take (rdyN f l))) ∧ RActed w lo p0 k m (l.drop (rdyN f l)) w' := h.act
theorem ws_heard {w : World} {s : Nat} {C : Array Value} {wr : World} {p : RP} {k : Nat} {m : Int → Option Int} {l : List Wt} {wv : Value} {ws : List Int} {H : List (Int × Int)} {a : Option Addr} {n c : Nat} (h : WS w s C wr p k m l wv ws (.slice a n c) H) {g : Nat} (hg : g < H.length) :
    ∃ hb off, a = some ⟨hb, off, none⟩ ∧ n = 2 * H.length ∧ wr.cell? ⟨hb, off + 2 * g, none⟩ = some (.int .i64 (H.getD g (0, 0)).1) ∧ wr.cell? ⟨hb, off + (2 * g + 1), none⟩ = some (.int .i64 (H.getD g (0, 0)).2) := by
  obtain ⟨hb, off, cap, e, _, _, hc⟩ := h.2.2.1.cell (by omega)
  injection e with e1 e2 e3
  obtain ⟨h1, h2⟩ := hcs_at H g hg
  exact ⟨hb, off, e1, e2, hc _ _ h1, hc _ _ h2⟩
theorem ws_wait {w : World} {s : Nat} {C : Array Value} {wr : World} {p : RP} {k : Nat} {m : Int → Option Int} {l : List Wt} {wv hv : Value} {ws : List Int} {H : List (Int × Int)} (h : WS w s C wr p k m l wv ws hv H) {z : Nat} (hz : z < ws.length) :
    ∃ wb off cap, wv = .slice (some ⟨wb, off, none⟩) ws.length cap ∧ wr.cell? ⟨wb, off + z, none⟩ = some (.int .i64 (ws.getD z 0)) := by
  obtain ⟨wb, off, cap, e, _, _, hc⟩ := h.2.1.cell (by omega)
  exact ⟨wb, off, cap, e, hc z _ (by rw [List.getElem?_map, List.getD_eq_getElem?_getD, List.getElem?_eq_getElem hz]; rfl)⟩
theorem ws_conf {w : World} {s : Nat} {x y : Value} {wr : World} {p : RP} {k : Nat} {m : Int → Option Int} {l : List Wt} {wv hv : Value} {ws : List Int} {H : List (Int × Int)} (h : WS w s #[x, y] wr p k m l wv ws hv H) : wr.cell? ⟨s, 0, none⟩ = some x ∧ wr.cell? ⟨s, 1, none⟩ = some y := by
  have := h.2.2.2.2.2.2
  exact ⟨by simp [World.cell?, this], by simp [World.cell?, this]⟩
theorem take_snoc2 (H : List (Int × Int)) (k : Nat) (h : k < H.length) : H.take (k + 1) = H.take k ++ [H.getD k (0, 0)] := by
  rw [List.take_succ_eq_append_getElem h]; simp [List.getD_eq_getElem?_getD, List.getElem?_eq_getElem h]
theorem own_wk {w : World} {base : Nat} {v : Value} {A : List Int} (w1 : World) (h : w.ownsRow base 3 1 v A.length (A.map (Value.int .i64))) (hb : Below w.heap.size w w1) : w1.ownsRow base 3 1 v A.length (A.map (Value.int .i64)) := by
  refine h.kept ⟨hb.os, hb.tape, hb.output, hb.size, fun j hj _ => hb.block j hj⟩ ?_ (row := none)
  by_cases h9 : v.ownBlock = none
  · exact .inl h9
  · exact .inr h9
theorem rlen_at (p : RP) (lo k : Nat) (m : Int → Option Int) (l : List Wt) (w : World) (h : RAt w lo p k m l) : Calls Try.prog 18 #[.pointer (some ⟨p.b, 0, none⟩)] w fun e w' => e = .returned (.int .i64 l.length) ∧ w = w' := by
  obtain ⟨a, c, hv⟩ := h.2.2.2.2.1.slice
  have hb := h.2.2.1
  rw [hv] at hb
  exact rlen_any p.b p.mb l.length c a w (by simp [World.cell?, hb]) (by simp [World.cell?, hb])
theorem atL_mono {m : Int → Option Int} {a b n : Int} (h : atL m b n = true) (hab : a ≤ b) : atL m a n = true := by
  unfold atL at *
  cases e : m n with
  | none => rw [e] at h; cases h
  | some x => rw [e] at h; simp at h ⊢; omega
theorem rdy_all {V : List Int} {m : Int → Option Int} {L : List Wt} {ws : List Int} {nx : Nat} (hL : Lw L ws) (h0 : V ≠ []) (h : ∀ v ∈ V, atL m 15 v = true) : rdyN (rdyF V m 1) (L.drop nx) = L.length - nx := by
  rw [rdyN_all, List.length_drop]
  intro i hi
  rw [List.length_drop] at hi
  have e : (L.drop nx).getD i (0, 0, 0) = L.getD (nx + i) (0, 0, 0) := by simp [List.getD_eq_getElem?_getD, List.getElem?_drop]
  rw [e, hL.2.1 (nx + i) (by omega)]
  show rdyF V m 1 (ws.getD (nx + i) 0) = true
  have hk : ws.getD (nx + i) 0 ∈ ws := by
    have := hL.1
    rw [List.getD_eq_getElem?_getD, List.getElem?_eq_getElem (by omega)]; exact List.getElem_mem _
  have h15 := (hL.2.2 _ hk).2
  unfold rdyF
  refine majG_all h0 fun v hv => ?_
  rw [whoB_eq, atL_mono (h v hv) h15]; simp
end Go.Proofs.Ytbjhpifllgoffaa
