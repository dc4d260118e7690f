/- The document's log as it lies; New, Last, Term of it. -/
import Derived.Test.YtbgfpmnicpmieaaERefChain
namespace Go.Proofs.Ytbgfpmnicpmieaa
open Go Go.RowKit Go.Shelf Go.Sort
set_option linter.unusedVariables false
set_option linter.unusedSimpArgs false
set_option maxRecDepth 100000
set_option maxHeartbeats 1000000
/-- The document's log in its block: the same numbers. -/
def RB (w : World) (b : Nat) (l : Lg) : Prop := w.heap[b]? = some (.cells #[.int .i64 l.ix, .int .i64 l.tm, .slice l.a l.n l.c, .int .i64 l.com, .int .i64 l.app, .int .i64 l.sur] 57 (0, 0))
theorem RB.c0 {w b l} (h : RB w b l) : w.cell? ⟨b, 0, none⟩ = some (.int .i64 l.ix) := by unfold RB at h; simp [World.cell?, h]
theorem RB.c1 {w b l} (h : RB w b l) : w.cell? ⟨b, 1, none⟩ = some (.int .i64 l.tm) := by unfold RB at h; simp [World.cell?, h]
theorem RB.c2 {w b l} (h : RB w b l) : w.cell? ⟨b, 2, none⟩ = some (.slice l.a l.n l.c) := by unfold RB at h; simp [World.cell?, h]
theorem RB.c3 {w b l} (h : RB w b l) : w.cell? ⟨b, 3, none⟩ = some (.int .i64 l.com) := by unfold RB at h; simp [World.cell?, h]
theorem RB.c4 {w b l} (h : RB w b l) : w.cell? ⟨b, 4, none⟩ = some (.int .i64 l.app) := by unfold RB at h; simp [World.cell?, h]
theorem RB.c5 {w b l} (h : RB w b l) : w.cell? ⟨b, 5, none⟩ = some (.int .i64 l.sur) := by unfold RB at h; simp [World.cell?, h]
theorem RB.frozen {w b l} (h : RB w b l) (j : Nat) : w.frozen? ⟨b, j, none⟩ = false := by unfold RB at h; simp [World.frozen?, h]
theorem RB.lt {w b l} (h : RB w b l) : b < w.heap.size := (Array.getElem?_eq_some_iff.1 h).1
theorem RB.below {w w' b l} {m : Nat} (h : RB w b l) (hm : w.heap.size ≤ m) (hb : Below m w w') : RB w' b l := (hb.block b (Nat.lt_of_lt_of_le h.lt hm)).trans h
theorem RB.kept {w w' b l} {S : Nat → Prop} (h : RB w b l) (hk : Kept S w w') (hs : ¬ S b) : RB w' b l := (hk.block b h.lt hs).trans h
theorem RB.new (w : World) (l : Lg) : RB (w.alloc (.cells #[.int .i64 l.ix, .int .i64 l.tm, .slice l.a l.n l.c, .int .i64 l.com, .int .i64 l.app, .int .i64 l.sur] 57)) w.heap.size l := heap_alloc_new w _
theorem RB.s0 {w b l} (h : RB w b l) (x : Int) : RB (w.setCell ⟨b, 0, none⟩ (.int .i64 x)) b { l with ix := x } := by
  have := heap_setCell_same w b 0 _ 57 (.int .i64 x) h
  unfold RB; rw [this]; rfl
theorem RB.s1 {w b l} (h : RB w b l) (x : Int) : RB (w.setCell ⟨b, 1, none⟩ (.int .i64 x)) b { l with tm := x } := by
  have := heap_setCell_same w b 1 _ 57 (.int .i64 x) h
  unfold RB; rw [this]; rfl
theorem RB.s3 {w b l} (h : RB w b l) (x : Int) : RB (w.setCell ⟨b, 3, none⟩ (.int .i64 x)) b { l with com := x } := by
  have := heap_setCell_same w b 3 _ 57 (.int .i64 x) h
  unfold RB; rw [this]; rfl
theorem RB.s4 {w b l} (h : RB w b l) (x : Int) : RB (w.setCell ⟨b, 4, none⟩ (.int .i64 x)) b { l with app := x } := by
  have := heap_setCell_same w b 4 _ 57 (.int .i64 x) h
  unfold RB; rw [this]; rfl
theorem RB.s5 {w b l} (h : RB w b l) (x : Int) : RB (w.setCell ⟨b, 5, none⟩ (.int .i64 x)) b { l with sur := x } := by
  have := heap_setCell_same w b 5 _ 57 (.int .i64 x) h
  unfold RB; rw [this]; rfl
theorem RB.s2 {w b l} (h : RB w b l) (a : Option Addr) (n c : Nat) : RB (w.setCell ⟨b, 2, none⟩ (.slice a n c)) b { l with a := a, n := n, c := c } := by
  have := heap_setCell_same w b 2 _ 57 (.slice a n c) h
  unfold RB; rw [this]; rfl
/-- The document's log: its block, and the row that it owns. -/
structure RG (w : World) (m b : Nat) (l : Lg) (es : List Ent) : Prop where
  lb : RB w b l
  own : w.ownsRow m 37 13 (.slice l.a l.n l.c) l.n (flatE es)
  mb : m ≤ b
theorem RG.er {w m b l es} (h : RG w m b l es) : ER w l.a l.n es := by
  obtain ⟨a, c, e, h1, _⟩ := own_er h.own
  cases e; exact h1
theorem RG.cap {w m b l es} (h : RG w m b l es) : l.n ≤ l.c := by
  obtain ⟨a, c, e, _, h1⟩ := own_er h.own
  cases e; exact h1
theorem RG.len {w m b l es} (h : RG w m b l es) : es.length = l.n := h.er.1
theorem RG.ep {w m b l es} (h : RG w m b l es) : EP w l.a l.n (pts es) := h.er.ep
/-- The row's block is another than the log's own. -/
theorem RG.ne {w m b l es} (h : RG w m b l es) {j : Nat} (hj : gOf l = some j) : j ≠ b := by
  rintro rfl
  rcases h.own.2 with ⟨h0, _⟩ | ⟨g, cap, cur, h1, _, h3, _⟩
  · rw [gOf, h0] at hj; cases hj
  · rw [gOf, h1] at hj
    cases hj
    have := h.lb
    unfold RB at this
    rw [h3] at this
    injection this with this
    injection this with _ h5
    exact absurd h5 (by decide)
theorem RG.lt {w m b l es} (h : RG w m b l es) {j : Nat} (hj : gOf l = some j) : m ≤ j ∧ j < w.heap.size := h.own.lt j hj
theorem RG.below {w w' m b l es} {k : Nat} (h : RG w m b l es) (hk : w.heap.size ≤ k) (hb : Below k w w') : RG w' m b l es := ⟨h.lb.below hk hb, own_below h.own hk hb, h.mb⟩
theorem RG.kept {w w' m b l es} {S : Nat → Prop} (h : RG w m b l es) (hk : Kept S w w') (hs : ¬ S b) (hg : ∀ j, gOf l = some j → ¬ S j) : RG w' m b l es := ⟨h.lb.kept hk hs, own_kept h.own hk hg, h.mb⟩
theorem RG.set {w m b l es} (h : RG w m b l es) {l' : Lg} {j : Nat} {v : Value} (hb : RB (w.setCell ⟨b, j, none⟩ v) b l') (ha : l'.a = l.a) (hn : l'.n = l.n) (hc : l'.c = l.c) : RG (w.setCell ⟨b, j, none⟩ v) m b l' es :=
  ⟨hb, by rw [ha, hn, hc]; exact own_set h.own _ _ (fun e => h.ne e rfl), h.mb⟩
theorem RG.low {w m m' b l es} (h : RG w m b l es) (hm : m' ≤ m) : RG w m' b l es := ⟨h.lb, own_mono h.own hm, Nat.le_trans hm h.mb⟩
/-- Nothing, or entries, laid behind an empty row of the call's own. -/
theorem run_fresh (base : Nat) (ty : TypeId) (p : Nat) (w : World) (hX : w.ownsRow base 37 13 (.slice (some ⟨p, 0, none⟩) 0 0) 0 (flatE [])) (hb : base ≤ w.heap.size) (hp : base ≤ p) (a : Option Addr) (m c : Nat) (ys : List Ent) (hY : ER w a m ys) (hbytes : m * 168 ≤ 140737488355328) :
    ∃ a' c' w', (Builtin.append_ #[22, 22] ty #[.slice (some ⟨p, 0, none⟩) 0 0, .slice a m c]).run Try.prog w = .ok (.slice a' m c') w' ∧ w'.ownsRow base 37 13 (.slice a' m c') m (flatE ys) ∧ Below base w w' := by
  cases a with
  | none =>
    have h0 : m = 0 := by
      rcases hY.2 with h | ⟨b, off, e, _⟩
      · exact h
      · cases e
    subst h0
    have hys : ys = [] := List.eq_nil_of_length_eq_zero hY.1
    subst hys
    exact ⟨_, _, w, run_app0 ty ⟨p, 0, none⟩ none c w, hX, Below.refl _ _⟩
  | some q =>
    obtain ⟨v', w', hr, h2, h3, h5⟩ := run_appE base ty _ 0 [] w hX hb q m c ys hY (by omega)
    rw [Nat.zero_add, List.nil_append] at h2
    obtain ⟨a', c', rfl, _, _⟩ := own_er h2
    exact ⟨a', c', w', hr, h2, (Below.refl _ w).grown h3 hb (fun k ek => by cases ek; exact hp)⟩
def NewR (w : World) (ix tm : Int) (n : Nat) (es : List Ent) (e : Ending) (w' : World) : Prop :=
  (newB ix tm es = false ∧ e = .returned (.pointer none) ∧ Below w.heap.size w w') ∨
  (newB ix tm es = true ∧ ∃ b a' c', e = .returned (.pointer (some ⟨b, 0, none⟩)) ∧ RG w' w.heap.size b ⟨ix, tm, a', n, c', ix, ix, ix + n, true⟩ es ∧ Below w.heap.size w w')
theorem refnew_any (ix tm : Int) (a : Option Addr) (n c : Nat) (es : List Ent) (w : World) (h : ER w a n es) (hk : EKs w es) (hn : n * 168 ≤ 140737488355328) :
    Calls Try.prog 23 #[.int .i64 ix, .int .i64 tm, .slice a n c] w (NewR w ix tm n es) := by
  have HR := Lib.hid h
  have HK := Lib.hid hk
  have HN : Hid (newB ix tm es = (decide (0 ≤ ix) && (decide (ix ≤ 1099511627776) && (decide (0 ≤ tm) && chainB ix tm es)))) := rfl
  clear h hk
  go_enter Try.func23, Try.ntmps23
  by_cases c1 : ix < 0
  · have d1 : decide (ix < 0) = true := decide_eq_true c1
    have HF : Hid (newB ix tm es = false) := by show _ = _; rw [HN.out, decide_eq_false (by omega)]; rfl
    clear c1
    go_wp2_with fail
    go_ret
    exact .inl ⟨HF.out, rfl, Below.refl _ _⟩
  have d1 : decide (ix < 0) = false := decide_eq_false c1
  by_cases c2 : 1099511627776 < ix
  · have d2 : decide (1099511627776 < ix) = true := decide_eq_true c2
    have HF : Hid (newB ix tm es = false) := by show _ = _; rw [HN.out, decide_eq_true (by omega), decide_eq_false (by omega)]; rfl
    clear c1 c2
    go_wp2_with fail
    go_ret
    exact .inl ⟨HF.out, rfl, Below.refl _ _⟩
  have d2 : decide (1099511627776 < ix) = false := decide_eq_false c2
  by_cases c3 : tm < 0
  · have d3 : decide (tm < 0) = true := decide_eq_true c3
    have HF : Hid (newB ix tm es = false) := by show _ = _; rw [HN.out, decide_eq_true (by omega), decide_eq_true (by omega), decide_eq_false (by omega)]; rfl
    clear c1 c2 c3
    go_wp2_with fail
    go_ret
    exact .inl ⟨HF.out, rfl, Below.refl _ _⟩
  have d3 : decide (tm < 0) = false := decide_eq_false c3
  have HF : Hid (newB ix tm es = chainB ix tm es) := by show _ = _; rw [HN.out, decide_eq_true (by omega), decide_eq_true (by omega), decide_eq_true (by omega)]; rfl
  go_wp2_with fail
  refine (refchain_any ix tm a n c es _ HR.out HK.out (by omega) (by omega) (by omega)).mono ?_
  rintro e w1 ⟨rfl, hb⟩
  have L1 := Lib.hid hb
  have R1 := Lib.hid (HR.out.keep (Nat.le_refl _) hb)
  clear hb
  cases hc : chainB ix tm es
  · have HG : Hid (newB ix tm es = false) := by show _ = _; rw [HF.out, hc]
    clear hc
    go_wp2_with fail
    go_ret
    exact .inl ⟨HG.out, rfl, L1.out⟩
  have HG : Hid (newB ix tm es = true) := by show _ = _; rw [HF.out, hc]
  clear hc
  have hown : (w1.alloc (.cells #[] 37)).ownsRow w1.heap.size 37 13 (.slice (some ⟨w1.heap.size, 0, none⟩) 0 0) 0 (flatE []) :=
    ⟨rfl, .inr ⟨w1.heap.size, 0, #[], rfl, Nat.le_refl _, heap_alloc_new w1 _, Nat.le_refl _, Nat.zero_le _, rfl, rfl⟩⟩
  have LA : Below w1.heap.size w1 (w1.alloc (.cells #[] 37)) := (Below.refl _ w1).alloc (Nat.le_refl _) _
  obtain ⟨a', c', w2, hr, ho, hb⟩ := run_fresh w1.heap.size 22 w1.heap.size _ hown LA.size (Nat.le_refl _) a n c es (R1.out.keep (Nat.le_refl _) LA) hn
  have H3 := Lib.hid hr
  have L2 := Lib.hid (L1.out.trans ((LA.trans hb).mono L1.out.size))
  have HO := Lib.hid (own_mono ho L1.out.size)
  clear hown LA hr ho hb d1 d2 d3
  go_wp2_with (at_builtin; refine wpList_run rfl _ _ rfl _ _ rfl rfl _ _ H3.out ?_)
  go_ret
  exact .inr ⟨HG.out, w2.heap.size, a', c', rfl, ⟨RB.new w2 ⟨ix, tm, a', n, c', ix, ix, ix + n, true⟩, HO.out.alloc _, L2.out.size⟩, L2.out.alloc L2.out.size _⟩
theorem reflast_any (m b : Nat) (l : Lg) (es : List Ent) (w : World) (hg : RG w m b l es) (hn : l.n ≤ 1000) : Calls Try.prog 56 #[.pointer (some ⟨b, 0, none⟩)] w fun e w' => e = .returned (.tuple #[.int .i64 (lastP l (pts es)).1, .int .i64 (lastP l (pts es)).2]) ∧ Below w.heap.size w w' := by
  have h0 := hg.lb.c0
  have h1 := hg.lb.c1
  have h2 := hg.lb.c2
  have HP : Hid (lastP l (pts es) = if l.n = 0 then (l.ix, l.tm) else (pts es).getD (l.n - 1) (0, 0)) := rfl
  have HE := Lib.hid hg.er
  have HL := Lib.hid hg.len
  clear hg
  generalize lastP l (pts es) = q at *
  obtain ⟨q1, q2⟩ := q
  obtain ⟨ix, tm, a, n, c, com, app, sur, is⟩ := l
  dsimp only at *
  rcases Nat.eq_zero_or_pos n with rfl | hpos
  · have hq : (q1, q2) = (ix, tm) := HP.out
    cases hq
    clear HP HE
    go_enter Try.func56, Try.ntmps56
    go_wp2_with fail
    go_quiet (fail)
    go_wp2
    go_ret2
    exact ⟨rfl, below_drewN' (Below.refl _ _) nq⟩
  · obtain ⟨k, rfl⟩ : ∃ k, n = k + 1 := ⟨n - 1, by omega⟩
    have hq : (q1, q2) = (pts es).getD k (0, 0) := by
      have := HP.out
      rwa [if_neg (by omega), Nat.add_sub_cancel] at this
    rw [pts_at es (by have := HL.out; omega)] at hq
    obtain ⟨bb, off, rfl, hc⟩ := HE.out.row (show k < k + 1 by omega)
    have r0 := hc 0 (by omega)
    have r1 := hc 1 (by omega)
    have r2 := hc 2 (by omega)
    have r3 := hc 3 (by omega)
    have r4 := hc 4 (by omega)
    have r5 := hc 5 (by omega)
    have r6 := hc 6 (by omega)
    have r7 := hc 7 (by omega)
    have r8 := hc 8 (by omega)
    have r9 := hc 9 (by omega)
    have r10 := hc 10 (by omega)
    have r11 := hc 11 (by omega)
    have r12 := hc 12 (by omega)
    clear hc HE
    generalize es.getD k default = e at *
    simp only [List.getD_cons_zero, List.getD_cons_succ] at r0 r1 r2 r3 r4 r5 r6 r7 r8 r9 r10 r11 r12
    rw [Nat.add_zero] at r0
    cases hq
    have hlt : (0 : Int) < ((k + 1 : Nat) : Int) := by omega
    clear HP hpos
    go_enter Try.func56, Try.ntmps56
    have hz : ((k : Int) + 1 == 0) = false := by simp; omega
    have hw : IntKind.i64.wrap ((k : Int) + 1 - 1) = k := by rw [IntWalk.i64_in _ (by omega)]; omega
    have hk1 : k < k + 1 := Nat.lt_succ_self k
    have hw2 : IntKind.i64.wrap (k : Int) = k := IntWalk.i64_in _ (by omega)
    have hb0 : b < w.heap.size := cell_block_lt h0
    have hb1 : bb < w.heap.size := cell_block_lt r1
    have L1 : Hid (∀ o, Below w.heap.size w (w.drew.alloc o)) := by show ∀ o, _; exact fun o => ((Below.refl _ w).drew).alloc (Nat.le_refl _) _
    go_wp2_with fail
    go_region
    all_goals (
      go_wp2_with fail
      go_quiet (fail)
      go_wp2
      go_ret2
      exact ⟨rfl, below_drewN' (L1.out _) nq⟩)
end Go.Proofs.Ytbgfpmnicpmieaa
