/- What is done to both logs: Commit, Sure, Compact, Newer and Hint, and what is none of the acts. -/
import Derived.Test.YtbgfpmnicpmieaaEAppend
namespace Go.Proofs.Ytbgfpmnicpmieaa
open Go Go.RowKit Go.Shelf Go.Sort
set_option linter.unusedVariables false
set_option linter.unusedSimpArgs false
set_option maxRecDepth 100000
set_option maxHeartbeats 1000000
theorem kept_cell {S : Nat → Prop} {w w' : World} {p : Addr} {v : Value} (hk : Kept S w w') (h : w.cell? p = some v) (hs : ¬ S p.block) : w'.cell? p = some v :=
  (World.cell?_of_block (w := w) (hk.block p.block (cell_block_lt h) hs)).trans h
/-- Two logs that lie apart. -/
structure Two (w : World) (m b : Nat) (l1 : Lg) (es1 : List Ent) (rb : Nat) (l2 : Lg) (es2 : List Ent) : Prop where
  lg : LG w m b l1 es1
  rg : RG w m rb l2 es2
  ne : b ≠ rb
  g1 : ∀ j, gOf l1 = some j → j ≠ rb ∧ gOf l2 ≠ some j
  g2 : ∀ j, gOf l2 = some j → j ≠ b
theorem Two.below {w w' m b l1 es1 rb l2 es2} {k : Nat} (h : Two w m b l1 es1 rb l2 es2) (hk : w.heap.size ≤ k) (hb : Below k w w') : Two w' m b l1 es1 rb l2 es2 := ⟨h.lg.below hk hb, h.rg.below hk hb, h.ne, h.g1, h.g2⟩
theorem Two.ms {w m b l1 es1 rb l2 es2} (h : Two w m b l1 es1 rb l2 es2) : m ≤ w.heap.size := Nat.le_trans h.lg.mb (Nat.le_of_lt h.lg.lb.lt)
theorem gOf_com (l : Lg) (i : Int) : gOf (comL l i) = gOf l := by unfold comL; split <;> rfl
theorem gOf_app (l : Lg) (i : Int) : gOf (appL l i) = gOf l := by unfold appL; split <;> rfl
def Own1 (b : Nat) (l : Lg) (j : Nat) : Prop := j = b ∨ gOf l = some j
def OwnT (b : Nat) (l : Lg) (rb : Nat) (r : Lg) (j : Nat) : Prop := j = b ∨ gOf l = some j ∨ j = rb ∨ gOf r = some j
/-- What is done stays within the two logs' own blocks. -/
structure Loc (w w' : World) (b : Nat) (l l' : Lg) (rb : Nat) (r r' : Lg) : Prop where
  kept : Kept (OwnT b l rb r) w w'
  f1 : ∀ j, gOf l' = some j → gOf l = some j ∨ w.heap.size ≤ j
  f2 : ∀ j, gOf r' = some j → gOf r = some j ∨ w.heap.size ≤ j
theorem Loc.same {w w' : World} {k : Nat} (h : Below k w w') (hk : w.heap.size ≤ k) (b : Nat) (l : Lg) (rb : Nat) (r : Lg) : Loc w w' b l l rb r r := ⟨Kept.of h hk, fun j hj => .inl hj, fun j hj => .inl hj⟩
theorem Loc.trans {w w1 w2 b l l1 l2 rb r r1 r2} (h : Loc w w1 b l l1 rb r r1) (k : Loc w1 w2 b l1 l2 rb r1 r2) : Loc w w2 b l l2 rb r r2 := by
  have hs := h.kept.size
  refine ⟨⟨k.kept.os.trans h.kept.os, k.kept.tape.trans h.kept.tape, k.kept.output.trans h.kept.output, Nat.le_trans hs k.kept.size, fun i hi hn => ?_⟩, fun j hj => ?_, fun j hj => ?_⟩
  · refine (k.kept.block i (Nat.lt_of_lt_of_le hi hs) fun e => hn ?_).trans (h.kept.block i hi hn)
    rcases e with e | e | e | e
    · exact .inl e
    · rcases h.f1 i e with h1 | h1
      · exact .inr (.inl h1)
      · omega
    · exact .inr (.inr (.inl e))
    · rcases h.f2 i e with h1 | h1
      · exact .inr (.inr (.inr h1))
      · omega
  · rcases k.f1 j hj with h1 | h1
    · exact h.f1 j h1
    · exact .inr (by omega)
  · rcases k.f2 j hj with h1 | h1
    · exact h.f2 j h1
    · exact .inr (by omega)
theorem Two.low {w w' m b l1 es1 rb l2 es2 l1' l2'} (h : Two w m b l1 es1 rb l2 es2) (hl : Loc w w' b l1 l1' rb l2 l2') : Below m w w' :=
  hl.kept.below h.ms fun k hk => by
    rcases hk with e | e | e | e
    · rw [e]; exact h.lg.mb
    · exact (h.lg.lt e).1
    · rw [e]; exact h.rg.mb
    · exact (h.rg.lt e).1
theorem Two.rg1 {w w1 m b l1 es1 rb l2 es2} (h : Two w m b l1 es1 rb l2 es2) (hk : Kept (Own1 b l1) w w1) : RG w1 m rb l2 es2 :=
  h.rg.kept hk (fun e => by
    rcases e with e | e
    · exact h.ne e.symm
    · exact (h.g1 _ e).1 rfl) (fun j hj e => by
    rcases e with e | e
    · exact h.g2 j hj e
    · exact (h.g1 _ e).2 hj)
theorem Two.done {w w1 w2 m b l1 es1 rb l2 es2 l1' es1' l2' es2'} (h : Two w m b l1 es1 rb l2 es2) (hk1 : Kept (Own1 b l1) w w1) (hg1 : LG w1 m b l1' es1') (hf1 : ∀ j, gOf l1' = some j → gOf l1 = some j ∨ w.heap.size ≤ j)
    (hk2 : Kept (Own1 rb l2) w1 w2) (hg2 : RG w2 m rb l2' es2') (hf2 : ∀ j, gOf l2' = some j → gOf l2 = some j ∨ w1.heap.size ≤ j) : Two w2 m b l1' es1' rb l2' es2' ∧ Loc w w2 b l1 l1' rb l2 l2' := by
  have hbs := h.lg.lb.lt
  have hrs := h.rg.lb.lt
  have hs1 := hk1.size
  have n1 : ¬ Own1 rb l2 b := fun e => by
    rcases e with e | e
    · exact h.ne e
    · exact h.g2 _ e rfl
  have n2 : ∀ j, gOf l1' = some j → ¬ Own1 rb l2 j := fun j hj e => by
    rcases hf1 j hj with h1 | h1
    · rcases e with e | e
      · exact (h.g1 j h1).1 e
      · exact (h.g1 j h1).2 e
    · rcases e with e | e
      · omega
      · have := (h.rg.lt e).2; omega
  refine ⟨⟨hg1.kept hk2 n1 n2, hg2, h.ne, fun j hj => ⟨fun e => n2 j hj (.inl e), fun e => ?_⟩, fun j hj e => ?_⟩, ?_⟩
  · rcases hf2 j e with h1 | h1
    · exact n2 j hj (.inr h1)
    · have := (hg1.lt hj).2; omega
  · rcases hf2 j hj with h1 | h1
    · exact h.g2 j h1 e
    · omega
  · exact ⟨(hk1.weaken fun k hk => hk.elim .inl fun e => .inr (.inl e)).trans (hk2.weaken fun k hk => hk.elim (fun e => .inr (.inr (.inl e))) fun e => .inr (.inr (.inr e))), hf1, fun j hj => (hf2 j hj).imp id fun h1 => Nat.le_trans hs1 h1⟩
theorem kept_b {w w' : World} {b : Nat} {l : Lg} (h : Kept (· = b) w w') : Kept (Own1 b l) w w' := h.weaken fun k hk => .inl hk
theorem act2 (m b : Nat) (l1 : Lg) (es1 : List Ent) (rb : Nat) (l2 : Lg) (es2 : List Ent) (N M : Int) (a : Option Addr) (n c : Nat) (w : World) (h : Two w m b l1 es1 rb l2 es2) (i1 : Inv l1 es1) (i2 : Inv l2 es2) :
    Calls Try.prog 25 #[.pointer (some ⟨b, 0, none⟩), .pointer (some ⟨rb, 0, none⟩), .agg #[.int .i64 2, .int .i64 N, .int .i64 M, .slice a n c]] w fun e w' => e = .returned (.bool (comB l1 N == comB l2 N)) ∧ Two w' m b (comL l1 N) es1 rb (comL l2 N) es2 ∧ Loc w w' b l1 (comL l1 N) rb l2 (comL l2 N) := by
  have L0 : Hid (Below w.heap.size w (w.alloc (.cells #[.int .i64 2, .int .i64 N, .int .i64 M, .slice a n c] 48))) := (Below.refl _ w).alloc (Nat.le_refl _) _
  have T0 := Lib.hid (h.below (Nat.le_refl _) L0.out)
  have I1 := Lib.hid i1
  have I2 := Lib.hid i2
  have hb1 := h.lg.lb.lt
  have hb2 := h.rg.lb.lt
  have HMS := Lib.hid h.ms
  clear h i1 i2
  go_enter Try.func25, Try.ntmps25
  go_upto_region 14 with fail
  have LD : Hid (Below w.heap.size w ((w.alloc (.cells #[.int .i64 2, .int .i64 N, .int .i64 M, .slice a n c] 48)).drew)) := L0.out.drew
  have TD := Lib.hid (T0.out.below (Nat.le_refl _) (Below.refl _ _).drew)
  have hc0 : Hid ((w.alloc (.cells #[.int .i64 2, .int .i64 N, .int .i64 M, .slice a n c] 48)).cell? ⟨w.heap.size, 1, none⟩ = some (.int .i64 N)) := by show _ = _; simp
  have hcd : Hid (((w.alloc (.cells #[.int .i64 2, .int .i64 N, .int .i64 M, .slice a n c] 48)).drew).cell? ⟨w.heap.size, 1, none⟩ = some (.int .i64 N)) := by show _ = _; simp
  have hn1 : ¬ w.heap.size = b := by omega
  have hn2 : ¬ w.heap.size = rb := by omega
  go_region_held3 (fun W => W.cell? ⟨w.heap.size, 1, none⟩ = some (.int .i64 N))
    (first | exact hc0.out | exact hcd.out | exact kept_cell (p := ⟨w.heap.size, 1, none⟩) hk1 hcd.out hn1 | exact kept_cell (p := ⟨w.heap.size, 1, none⟩) hk2 (by assumption) hn2)
    (first
      | (go_at_call 17; (with_reducible refine (commit_any m b l1 es1 N _ TD.out.lg I1.out).mono ?_); rintro e w1 ⟨rfl, hg1, hk1⟩)
      | (go_at_call 46; refine (refcommit_any m rb l2 es2 N _ (TD.out.rg1 (kept_b hk1)) I2.out).mono ?_; rintro e w2 ⟨rfl, hg2, hk2⟩))
  all_goals (
    obtain ⟨d1, d2⟩ := TD.out.done (kept_b hk1) hg1 (fun j hj => .inl (by rw [gOf_com] at hj; exact hj)) (kept_b hk2) hg2 (fun j hj => .inl (by rw [gOf_com] at hj; exact hj))
    have D1 := Lib.hid d1
    have D2 := Lib.hid ((Loc.same LD.out (Nat.le_refl _) b l1 rb l2).trans d2)
    clear d1 d2 hg1 hk1 hg2 hk2 hc0 hcd L0 T0 TD LD
    rename_i hHeld
    clear hHeld
    go_wp2_with fail
    go_ret
    exact ⟨rfl, D1.out, D2.out⟩)
theorem act3 (m b : Nat) (l1 : Lg) (es1 : List Ent) (rb : Nat) (l2 : Lg) (es2 : List Ent) (N M : Int) (a : Option Addr) (n c : Nat) (w : World) (h : Two w m b l1 es1 rb l2 es2) (i1 : Inv l1 es1) (i2 : Inv l2 es2) :
    Calls Try.prog 25 #[.pointer (some ⟨b, 0, none⟩), .pointer (some ⟨rb, 0, none⟩), .agg #[.int .i64 3, .int .i64 N, .int .i64 M, .slice a n c]] w fun e w' => e = .returned (.bool true) ∧ Two w' m b (surL l1 N) es1 rb (surL l2 N) es2 ∧ Loc w w' b l1 (surL l1 N) rb l2 (surL l2 N) := by
  have L0 : Hid (Below w.heap.size w (w.alloc (.cells #[.int .i64 3, .int .i64 N, .int .i64 M, .slice a n c] 48))) := (Below.refl _ w).alloc (Nat.le_refl _) _
  have T0 := Lib.hid (h.below (Nat.le_refl _) L0.out)
  have I1 := Lib.hid i1
  have I2 := Lib.hid i2
  have hb1 := h.lg.lb.lt
  have hb2 := h.rg.lb.lt
  have HMS := Lib.hid h.ms
  clear h i1 i2
  go_enter Try.func25, Try.ntmps25
  go_wp2_with fail
  refine (sure_any m b l1 es1 N _ T0.out.lg I1.out).mono ?_
  rintro e w1 ⟨rfl, hg1, hk1⟩
  have z1 : w1.cell? ⟨w.heap.size, 1, none⟩ = some (.int .i64 N) := kept_cell (p := ⟨w.heap.size, 1, none⟩) hk1 (by simp) (by show ¬ w.heap.size = b; omega)
  have HG1 := Lib.hid hg1
  have HK1 := Lib.hid hk1
  clear hg1 hk1
  go_wp2_with fail
  refine (refsure_any m rb l2 es2 N _ (T0.out.rg1 (kept_b HK1.out)) I2.out).mono ?_
  rintro e w2 ⟨rfl, hg2, hk2⟩
  obtain ⟨d1, d2⟩ := T0.out.done (kept_b HK1.out) HG1.out (fun j hj => .inl hj) (kept_b hk2) hg2 (fun j hj => .inl hj)
  have D1 := Lib.hid d1
  have D2 := Lib.hid ((Loc.same L0.out (Nat.le_refl _) b l1 rb l2).trans d2)
  clear d1 d2 hg2 hk2 z1
  go_wp2_with fail
  go_ret
  exact ⟨rfl, D1.out, D2.out⟩
/-- What a Compact leaves of a log. -/
def Cpt (l : Lg) (es : List Ent) (i : Int) (l' : Lg) (es' : List Ent) : Prop :=
  (cptB l i = false ∧ l' = l ∧ es' = es) ∨ (cptB l i = true ∧ ∃ a c, l' = { l with ix := i, tm := (es.getD (cptK l i) default).t, a := a, n := l.n - (cptK l i + 1), c := c } ∧ es' = es.drop (cptK l i + 1))
theorem compact_one (m b : Nat) (l : Lg) (es : List Ent) (i : Int) (w : World) (hg : LG w m b l es) (hi : Inv l es) :
    Calls Try.prog 21 #[.pointer (some ⟨b, 0, none⟩), .int .i64 i] w fun e w' => e = .returned (.bool (cptB l i)) ∧ ∃ l' es', Cpt l es i l' es' ∧ LG w' m b l' es' ∧ Kept (· = b) w w' ∧ ∀ j, gOf l' = some j → gOf l = some j ∨ w.heap.size ≤ j := by
  refine (compact_any m b l es i w hg hi).mono ?_
  rintro e w' (⟨h1, rfl, h2, h3⟩ | ⟨h1, rfl, h3, a, c, h4, h5⟩)
  · exact ⟨by rw [h1], l, es, .inl ⟨h1, rfl, rfl⟩, h2, h3, fun j hj => .inl hj⟩
  · exact ⟨by rw [h1], _, _, .inr ⟨h1, a, c, rfl, rfl⟩, h4, h3, fun j hj => .inr (h5 j hj)⟩
theorem refcompact_one (m b : Nat) (l : Lg) (es : List Ent) (i : Int) (w : World) (hg : RG w m b l es) (hi : Inv l es) :
    Calls Try.prog 50 #[.pointer (some ⟨b, 0, none⟩), .int .i64 i] w fun e w' => e = .returned (.bool (cptB l i)) ∧ ∃ l' es', Cpt l es i l' es' ∧ RG w' m b l' es' ∧ Kept (· = b) w w' ∧ ∀ j, gOf l' = some j → gOf l = some j ∨ w.heap.size ≤ j := by
  refine (refcompact_any m b l es i w hg hi).mono ?_
  rintro e w' (⟨h1, rfl, h2, h3⟩ | ⟨h1, rfl, h3, a, c, h4, h5⟩)
  · exact ⟨by rw [h1], l, es, .inl ⟨h1, rfl, rfl⟩, h2, h3, fun j hj => .inl hj⟩
  · exact ⟨by rw [h1], _, _, .inr ⟨h1, a, c, rfl, rfl⟩, h4, h3, fun j hj => .inr (h5 j hj)⟩
theorem act5 (m b : Nat) (l1 : Lg) (es1 : List Ent) (rb : Nat) (l2 : Lg) (es2 : List Ent) (N M : Int) (a : Option Addr) (n c : Nat) (w : World) (h : Two w m b l1 es1 rb l2 es2) (i1 : Inv l1 es1) (i2 : Inv l2 es2) :
    Calls Try.prog 25 #[.pointer (some ⟨b, 0, none⟩), .pointer (some ⟨rb, 0, none⟩), .agg #[.int .i64 5, .int .i64 N, .int .i64 M, .slice a n c]] w fun e w' => e = .returned (.bool (cptB l1 N == cptB l2 N)) ∧ (∃ l1' es1' l2' es2', Cpt l1 es1 N l1' es1' ∧ Cpt l2 es2 N l2' es2' ∧ Two w' m b l1' es1' rb l2' es2' ∧ Loc w w' b l1 l1' rb l2 l2') := by
  have L0 : Hid (Below w.heap.size w (w.alloc (.cells #[.int .i64 5, .int .i64 N, .int .i64 M, .slice a n c] 48))) := (Below.refl _ w).alloc (Nat.le_refl _) _
  have T0 := Lib.hid (h.below (Nat.le_refl _) L0.out)
  have I1 := Lib.hid i1
  have I2 := Lib.hid i2
  have hb1 := h.lg.lb.lt
  have hb2 := h.rg.lb.lt
  have HMS := Lib.hid h.ms
  clear h i1 i2
  go_enter Try.func25, Try.ntmps25
  go_upto_region 21 with fail
  have LD : Hid (Below w.heap.size w ((w.alloc (.cells #[.int .i64 5, .int .i64 N, .int .i64 M, .slice a n c] 48)).drew)) := L0.out.drew
  have TD := Lib.hid (T0.out.below (Nat.le_refl _) (Below.refl _ _).drew)
  have hc0 : Hid ((w.alloc (.cells #[.int .i64 5, .int .i64 N, .int .i64 M, .slice a n c] 48)).cell? ⟨w.heap.size, 1, none⟩ = some (.int .i64 N)) := by show _ = _; simp
  have hcd : Hid (((w.alloc (.cells #[.int .i64 5, .int .i64 N, .int .i64 M, .slice a n c] 48)).drew).cell? ⟨w.heap.size, 1, none⟩ = some (.int .i64 N)) := by show _ = _; simp
  have hn1 : ¬ w.heap.size = b := by omega
  have hn2 : ¬ w.heap.size = rb := by omega
  go_region_held3 (fun W => W.cell? ⟨w.heap.size, 1, none⟩ = some (.int .i64 N))
    (first | exact hc0.out | exact hcd.out | exact kept_cell (p := ⟨w.heap.size, 1, none⟩) hk1 hcd.out hn1 | exact kept_cell (p := ⟨w.heap.size, 1, none⟩) hk2 (by assumption) hn2)
    (first
      | (go_at_call 21; (with_reducible refine (compact_one m b l1 es1 N _ TD.out.lg I1.out).mono ?_); rintro e w1 ⟨rfl, l1', es1', hC1, hg1, hk1, hf1⟩)
      | (go_at_call 50; refine (refcompact_one m rb l2 es2 N _ (TD.out.rg1 (kept_b hk1)) I2.out).mono ?_; rintro e w2 ⟨rfl, l2', es2', hC2, hg2, hk2, hf2⟩))
  all_goals (
    obtain ⟨d1, d2⟩ := TD.out.done (kept_b hk1) hg1 hf1 (kept_b hk2) hg2 hf2
    have D1 := Lib.hid d1
    have D2 := Lib.hid ((Loc.same LD.out (Nat.le_refl _) b l1 rb l2).trans d2)
    have HC1 := Lib.hid hC1
    have HC2 := Lib.hid hC2
    clear d1 d2 hg1 hk1 hg2 hk2 hc0 hcd L0 T0 TD LD hC1 hC2 hf1 hf2
    rename_i hHeld
    clear hHeld
    go_wp2_with fail
    go_ret
    exact ⟨rfl, l1', es1', l2', es2', HC1.out, HC2.out, D1.out, D2.out⟩)
theorem actO (m b : Nat) (l1 : Lg) (es1 : List Ent) (rb : Nat) (l2 : Lg) (es2 : List Ent) (k N M : Int) (a : Option Addr) (n c : Nat) (w : World) (h : Two w m b l1 es1 rb l2 es2) (i1 : Inv l1 es1) (i2 : Inv l2 es2) (d0 : (k == 0) = false) (d1 : (k == 1) = false) (d2 : (k == 2) = false) (d3 : (k == 3) = false) (d4 : (k == 4) = false) (d5 : (k == 5) = false) (d6 : (k == 6) = false) (d7 : (k == 7) = false) (d8 : (k == 8) = false) :
    Calls Try.prog 25 #[.pointer (some ⟨b, 0, none⟩), .pointer (some ⟨rb, 0, none⟩), .agg #[.int .i64 k, .int .i64 N, .int .i64 M, .slice a n c]] w fun e w' => e = .returned (.bool true) ∧ Two w' m b l1 es1 rb l2 es2 ∧ Loc w w' b l1 l1 rb l2 l2 := by
  have L0 : Hid (Below w.heap.size w (w.alloc (.cells #[.int .i64 k, .int .i64 N, .int .i64 M, .slice a n c] 48))) := (Below.refl _ w).alloc (Nat.le_refl _) _
  have T0 := Lib.hid (h.below (Nat.le_refl _) L0.out)
  have I1 := Lib.hid i1
  have I2 := Lib.hid i2
  have hb1 := h.lg.lb.lt
  have hb2 := h.rg.lb.lt
  have HMS := Lib.hid h.ms
  clear h i1 i2
  go_enter Try.func25, Try.ntmps25
  go_wp2_with fail
  go_ret
  exact ⟨rfl, T0.out, Loc.same L0.out (Nat.le_refl _) _ _ _ _⟩
end Go.Proofs.Ytbgfpmnicpmieaa
