/- Append: an entry more. -/
import Derived.Test.YtbgfpmnicpmieaaERefD
namespace Go.Proofs.Ytbgfpmnicpmieaa
open Go Go.RowKit Go.Shelf Go.Sort
set_option linter.unusedVariables false
set_option linter.unusedSimpArgs false
set_option maxRecDepth 100000
set_option maxHeartbeats 1000000
def addB (l : Lg) (es : List Ent) (e : Ent) : Bool := chainB (l.ix + l.n) (lastP l (pts es)).2 [e]
def AppendP (w : World) (m b : Nat) (l : Lg) (es : List Ent) (x : Ent) (e : Ending) (w' : World) : Prop :=
  (addB l es x = false ∧ e = .returned (.int .i64 2) ∧ LG w' m b l es ∧ Below w.heap.size w w') ∨
  (addB l es x = true ∧ e = .returned (.int .i64 0) ∧ Kept (fun j => j = b ∨ gOf l = some j) w w' ∧ ∃ a c, LG w' m b { l with a := a, n := l.n + 1, c := c } (es ++ [x]) ∧ ∀ j, gOf { l with a := a, n := l.n + 1, c := c } = some j → gOf l = some j ∨ w.heap.size ≤ j)
theorem tm_last {l : Lg} {es : List Ent} (hl : es.length = l.n) : (lastP l (pts es)).2 = tmAt l.tm es l.n := by
  unfold lastP
  split
  · rename_i h; rw [h]; rfl
  · rename_i h
    obtain ⟨k, hk⟩ : ∃ k, l.n = k + 1 := ⟨l.n - 1, by omega⟩
    rw [hk, Nat.add_sub_cancel, pts_at es (by omega)]; rfl
theorem add_inv {l : Lg} {es : List Ent} {x : Ent} (h : Inv l es) (hx : addB l es x = true) (hn : l.n + 1 ≤ 1000) (ht : l.ix + l.n + 1 ≤ 2199023255552) (a : Option Addr) (c : Nat) : Inv { l with a := a, n := l.n + 1, c := c } (es ++ [x]) := by
  have hel : es.length = l.n := by have := h.ok.len; rwa [pts_len] at this
  have hch : chainB l.ix l.tm (es ++ [x]) = true := by
    rw [chain_iff]
    intro j hj
    rw [List.length_append, List.length_cons, List.length_nil] at hj
    have hx2 := (chain_iff _ _ _).1 hx 0 (by simp)
    rw [tm_last hel] at hx2
    by_cases hjl : j < es.length
    · obtain ⟨g1, g2, g3⟩ := (chain_iff _ _ _).1 h.ch j hjl
      rw [getD_left _ _ hjl]
      refine ⟨g1, g2, ?_⟩
      cases j with
      | zero => exact g3
      | succ j => simp only [tmAt] at g3 ⊢; rw [getD_left _ _ (by omega)]; exact g3
    · obtain rfl : j = es.length := by omega
      rw [getD_right _ _ (Nat.le_refl _), Nat.sub_self]
      obtain ⟨g1, g2, g3⟩ := hx2
      refine ⟨g1, by rw [g2, hel]; simp; omega, ?_⟩
      refine Int.le_trans (Int.le_of_eq ?_) g3
      simp only [tmAt]
      rw [hel]
      cases hn0 : l.n with
      | zero => rfl
      | succ j => simp only [tmAt]; rw [getD_left _ _ (by omega)]
  have h1 := h.a3
  have h2 := h.s2
  exact ⟨⟨h.ok.is, by rw [pts_len, List.length_append, hel]; rfl, fun j hj => by rw [pts_len] at hj; rw [pts_at _ hj]; exact chain_row hch j hj, hn, h.ok.lo, h.ok.hi⟩, hch, h.a1, h.a2, by dsimp only; omega, h.s1, by dsimp only; omega, by dsimp only; omega⟩
theorem append_any (m b : Nat) (l : Lg) (es : List Ent) (x : Ent) (w : World) (hg : LG w m b l es) (hi : Inv l es) (hx : EK w x) :
    Calls Try.prog 26 #[.pointer (some ⟨b, 0, none⟩), x.v] w (AppendP w m b l es x) := by
  have L0 : Hid (Below w.heap.size w (w.alloc (.cells x.cs'.toArray 37))) := (Below.refl _ w).alloc (Nat.le_refl _) _
  have HQ : Hid (addB l es x = chainB (l.ix + l.n) (lastP l (pts es)).2 [x]) := rfl
  have G0 := Lib.hid (hg.below (Nat.le_refl _) L0.out)
  have HM := Lib.hid (made_any b l _ G0.out.lb)
  have HI := Lib.hid hi.ok.is
  have HL := Lib.hid (last_any b l (pts es) _ G0.out.lb hi.ok.is G0.out.ep hi.ok.small)
  have HLa := Lib.hid hi.ok.last
  have HX := Lib.hid (hx.keep (Nat.le_refl _) L0.out)
  have hbl := hg.lb.lt
  have hsm := hi.ok.small
  have hlo := hi.ok.lo
  have hhi := hi.ok.hi
  have HC := Lib.hid (box37 w x)
  clear hg hi hx
  go_enter Try.func26, Try.ntmps26
  go_wp2_with fail
  refine HM.out.mono ?_
  rintro e w' ⟨rfl, rfl⟩
  rw [HI.out]
  go_wp2_with fail
  refine HL.out.mono ?_
  rintro e w1 ⟨rfl, hb⟩
  rw [HLa.out]
  have L1 := Lib.hid (L0.out.trans (hb.mono L0.out.size))
  have G1 := Lib.hid (G0.out.below (Nat.le_refl _) hb)
  have X1 := Lib.hid (HX.out.keep (Nat.le_refl _) hb)
  have C1 : Hid (∀ c, c < 13 → w1.cell? ⟨w.heap.size, 0 + c, none⟩ = some (x.cs'.getD c undef)) := by
    show ∀ c, _
    intro c hc
    exact (hb.cell (cell_block_lt (HC.out c hc))).trans (HC.out c hc)
  clear hb HL G0 HX HC L0 HM HLa
  generalize (lastP l (pts es)).2 = lt at *
  have r0 := C1.out 0 (by omega)
  have r1 := C1.out 1 (by omega)
  have r2 := C1.out 2 (by omega)
  have r3 := C1.out 3 (by omega)
  have r4 := C1.out 4 (by omega)
  have r5 := C1.out 5 (by omega)
  have r6 := C1.out 6 (by omega)
  have r7 := C1.out 7 (by omega)
  have r8 := C1.out 8 (by omega)
  have r9 := C1.out 9 (by omega)
  have r10 := C1.out 10 (by omega)
  have r11 := C1.out 11 (by omega)
  have r12 := C1.out 12 (by omega)
  simp only [List.getD_cons_zero, List.getD_cons_succ, Nat.zero_add] at r0 r1 r2 r3 r4 r5 r6 r7 r8 r9 r10 r11 r12
  have hws : w.heap.size < w1.heap.size := cell_block_lt r0
  dsimp only
  go_wp2_with fail
  refine (chain_any (l.ix + l.n) lt (some ⟨w1.heap.size, 0, none⟩) 1 1 [x] _ (er_one w1 x) (fun y hy => by
    rw [List.mem_singleton] at hy; subst hy; exact X1.out.keep (Nat.le_refl _) ((Below.refl _ _).alloc (Nat.le_refl _) _)) (by omega)).mono ?_
  rintro e w2 ⟨rfl, hb⟩
  have LA : Below w1.heap.size w1 (w1.alloc (.cells x.cs'.toArray 37)) := (Below.refl _ w1).alloc (Nat.le_refl _) _
  have hb2 := LA.trans (hb.mono LA.size)
  have L2 := Lib.hid (L1.out.trans (hb2.mono L1.out.size))
  have G2 := Lib.hid (G1.out.below (Nat.le_refl _) hb2)
  have C2 : Hid (∀ c, c < 13 → w2.cell? ⟨w.heap.size, 0 + c, none⟩ = some (x.cs'.getD c undef)) := by
    show ∀ c, _
    intro c hc
    exact (hb2.cell (cell_block_lt (C1.out c hc))).trans (C1.out c hc)
  rw [← HQ.out]
  clear hb hb2 LA r0 r1 r2 r3 r4 r5 r6 r7 r8 r9 r10 r11 r12 C1 G1 L1 X1 hws
  cases hc : addB l es x
  · have HF := Lib.hid hc
    clear hc
    go_wp2_with fail
    go_ret
    exact .inl ⟨HF.out, rfl, G2.out, L2.out⟩
  have HF := Lib.hid hc
  clear hc
  have r0 := C2.out 0 (by omega)
  have r1 := C2.out 1 (by omega)
  have r2 := C2.out 2 (by omega)
  have r3 := C2.out 3 (by omega)
  have r4 := C2.out 4 (by omega)
  have r5 := C2.out 5 (by omega)
  have r6 := C2.out 6 (by omega)
  have r7 := C2.out 7 (by omega)
  have r8 := C2.out 8 (by omega)
  have r9 := C2.out 9 (by omega)
  have r10 := C2.out 10 (by omega)
  have r11 := C2.out 11 (by omega)
  have r12 := C2.out 12 (by omega)
  simp only [List.getD_cons_zero, List.getD_cons_succ, Nat.zero_add] at r0 r1 r2 r3 r4 r5 r6 r7 r8 r9 r10 r11 r12
  have hws : w.heap.size < w2.heap.size := cell_block_lt r0
  have hb2 : b < w2.heap.size := G2.out.lb.lt
  have c2 := G2.out.lb.c2
  have fz := G2.out.lb.frozen 2
  have LD : Below w2.heap.size w2 (w2.drew.alloc (.cells x.cs'.toArray 37)) := ((Below.refl _ w2).drew).alloc (Nat.le_refl _) _
  have hX := own_below G2.out.own (Nat.le_refl _) LD
  have hYY := er_one w2.drew x
  have hmz : m ≤ (w2.drew.alloc (.cells x.cs'.toArray 37)).heap.size := by have := G2.out.mb; have := LD.size; omega
  obtain ⟨v', w5, hr, ho5, hgr, hat⟩ := run_appE m 22 _ l.n es _ hX hmz ⟨w2.drew.heap.size, 0, none⟩ 1 1 [x] hYY (by omega)
  obtain ⟨a5, c5, rfl, _, _⟩ := own_er ho5
  have HR5 := Lib.hid hr
  have HO5 := Lib.hid ho5
  have HGR := Lib.hid hgr
  have HAT := Lib.hid hat
  have HLD := Lib.hid LD
  clear hX hYY hmz hr ho5 hgr hat LD
  go_upto_region 6 with fail
  go_cut [28] (fun v wx => wx = w5.setCell ⟨b, 2, none⟩ (.slice a5 (l.n + 1) c5))
  case first =>
    have hne : gOf l ≠ some b := fun h => G2.out.ne h rfl
    have B5 : LB w5 b l := by
      have h1 := G2.out.lb.below (Nat.le_refl _) HLD.out
      exact (HGR.out.block b h1.lt (fun e => hne e.symm)).trans h1
    have c25 := B5.c2
    have fz5 := B5.frozen 2
    clear B5 hne
    go_region_law (refine step_run rfl _ _ rfl (.slice l.a l.n l.c) (.slice (some ⟨w2.drew.heap.size, 0, none⟩) 1 1) rfl rfl _ _ HR5.out ?_)
    all_goals (go_wp2_with fail; go_meet; rfl)
  case rest =>
    subst hcut
    have hne : gOf l ≠ some b := fun h => G2.out.ne h rfl
    have B5 : LB w5 b l := by
      have h1 := G2.out.lb.below (Nat.le_refl _) HLD.out
      exact (HGR.out.block b h1.lt (fun e => hne e.symm)).trans h1
    have hat2 : ∀ j, (Value.slice a5 (l.n + 1) c5).ownBlock = some j → gOf l = some j ∨ w.heap.size ≤ j := by
      intro j hj
      rcases HAT.out with h | h
      · rw [h] at hj; exact .inl hj
      · rw [h] at hj
        injection hj with hj
        have h1 := HLD.out.size
        have h2 := L2.out.size
        exact .inr (by omega)
    have hnb : (Value.slice a5 (l.n + 1) c5).ownBlock ≠ some b := by
      intro h
      rcases hat2 b h with h1 | h1
      · exact hne h1
      · omega
    have KP : Kept (fun j => j = b ∨ gOf l = some j) w w5 := (Kept.of (L2.out.trans (HLD.out.mono L2.out.size)) (Nat.le_refl _)).grown HGR.out (fun k hk _ => .inr hk)
    go_wp2_with fail
    go_ret
    refine .inr ⟨HF.out, rfl, KP.setCell (p := ⟨b, 2, none⟩) (.inl rfl) _, a5, c5, ⟨B5.s2 a5 (l.n + 1) c5, own_set HO5.out _ _ hnb, G2.out.mb⟩, hat2⟩
end Go.Proofs.Ytbgfpmnicpmieaa
