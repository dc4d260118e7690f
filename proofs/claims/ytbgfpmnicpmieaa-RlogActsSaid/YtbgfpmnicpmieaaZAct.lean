/- Texts of this seat, set one behind the other. -/
import Derived.Test.YtbgfpmnicpmieaaEAct2
import Derived.Test.YtbgfpmnicpmieaaERest
import Derived.Test.YtbgfpmnicpmieaaERefF
import Derived.Test.YtbgfpmnicpmieaaEKs
import Derived.Test.YtbgfpmnicpmieaaZConf
import Derived.Test.YtbgfpmnicpmieaaETwo
import Derived.Test.YtbgfpmnicpmieaaEOpen
/- What is done to both logs: Restore, Match, Append. -/
namespace Go.Proofs.Ytbgfpmnicpmieaa
open Go Go.RowKit Go.Shelf Go.Sort
set_option linter.unusedVariables false
set_option linter.unusedSimpArgs false
set_option maxRecDepth 100000
set_option maxHeartbeats 1000000
/-- What a Restore leaves of a log. -/
def Rsd (l : Lg) (es : List Ent) (i t : Int) (l' : Lg) (es' : List Ent) : Prop :=
  (resB i t = false ∧ l' = l ∧ es' = es) ∨ (resB i t = true ∧ ∃ a c, l' = resL i t a c ∧ es' = [])
theorem rest_one (m b : Nat) (l : Lg) (es : List Ent) (i t : Int) (w : World) (hg : LG w m b l es) (hi : Inv l es) :
    Calls Try.prog 30 #[.pointer (some ⟨b, 0, none⟩), .int .i64 i, .int .i64 t] w fun e w' => e = .returned (.tuple #[]) ∧ ∃ l' es', Rsd l es i t l' es' ∧ LG w' m b l' es' ∧ Kept (· = b) w w' ∧ ∀ j, gOf l' = some j → gOf l = some j ∨ w.heap.size ≤ j := by
  refine (restore_any m b l es i t w hg hi.ok.is).mono ?_
  rintro e w' (⟨h1, rfl, h2, h3⟩ | ⟨h1, rfl, h3, a, c, h4, h5⟩)
  · exact ⟨rfl, l, es, .inl ⟨h1, rfl, rfl⟩, h2, h3, fun j hj => .inl hj⟩
  · exact ⟨rfl, _, _, .inr ⟨h1, a, c, rfl, rfl⟩, h4, h3, fun j hj => .inr (h5 j hj)⟩
theorem refrest_one (m b : Nat) (l : Lg) (es : List Ent) (i t : Int) (w : World) (hg : RG w m b l es) :
    Calls Try.prog 51 #[.pointer (some ⟨b, 0, none⟩), .int .i64 i, .int .i64 t] w fun e w' => e = .returned (.tuple #[]) ∧ ∃ l' es', Rsd l es i t l' es' ∧ RG w' m b l' es' ∧ Kept (· = b) w w' ∧ ∀ j, gOf l' = some j → gOf l = some j ∨ w.heap.size ≤ j := by
  refine (refrestore_any m b l es i t w hg).mono ?_
  rintro e w' (⟨h1, rfl, h2, h3⟩ | ⟨h1, rfl, h3, a, c, h4, h5⟩)
  · exact ⟨rfl, l, es, .inl ⟨h1, rfl, rfl⟩, h2, h3, fun j hj => .inl hj⟩
  · exact ⟨rfl, _, _, .inr ⟨h1, a, c, rfl, rfl⟩, h4, h3, fun j hj => .inr (h5 j hj)⟩
theorem act6 (m b : Nat) (l1 : Lg) (es1 : List Ent) (rb : Nat) (l2 : Lg) (es2 : List Ent) (N M : Int) (a : Option Addr) (n c : Nat) (w : World) (h : Two w m b l1 es1 rb l2 es2) (i1 : Inv l1 es1) (i2 : Inv l2 es2) :
    Calls Try.prog 25 #[.pointer (some ⟨b, 0, none⟩), .pointer (some ⟨rb, 0, none⟩), .agg #[.int .i64 6, .int .i64 N, .int .i64 M, .slice a n c]] w fun e w' => e = .returned (.bool true) ∧ (∃ l1' es1' l2' es2', Rsd l1 es1 N M l1' es1' ∧ Rsd l2 es2 N M l2' es2' ∧ Two w' m b l1' es1' rb l2' es2' ∧ Loc w w' b l1 l1' rb l2 l2') := by
  have L0 : Hid (Below w.heap.size w (w.alloc (.cells #[.int .i64 6, .int .i64 N, .int .i64 M, .slice a n c] 48))) := (Below.refl _ w).alloc (Nat.le_refl _) _
  have T0 := Lib.hid (h.below (Nat.le_refl _) L0.out)
  have I1 := Lib.hid i1
  have I2 := Lib.hid i2
  have hb1 := h.lg.lb.lt
  have hb2 := h.rg.lb.lt
  have HMS := Lib.hid h.ms
  clear h i1 i2
  go_enter Try.func25, Try.ntmps25
  go_wp2_with fail
  refine (rest_one m b l1 es1 N M _ T0.out.lg I1.out).mono ?_
  rintro e w1 ⟨rfl, l1', es1', hC1, hg1, hk1, hf1⟩
  have z1 : w1.cell? ⟨w.heap.size, 1, none⟩ = some (.int .i64 N) := kept_cell (p := ⟨w.heap.size, 1, none⟩) hk1 (by simp) (by show ¬ w.heap.size = b; omega)
  have z2 : w1.cell? ⟨w.heap.size, 2, none⟩ = some (.int .i64 M) := kept_cell (p := ⟨w.heap.size, 2, none⟩) hk1 (by simp) (by show ¬ w.heap.size = b; omega)
  have HC1 := Lib.hid hC1
  have HF1 := Lib.hid hf1
  have HG1 := Lib.hid hg1
  have HK1 := Lib.hid hk1
  clear hg1 hk1 hC1 hf1
  go_wp2_with fail
  refine (refrest_one m rb l2 es2 N M _ (T0.out.rg1 (kept_b HK1.out))).mono ?_
  rintro e w2 ⟨rfl, l2', es2', hC2, hg2, hk2, hf2⟩
  obtain ⟨d1, d2⟩ := T0.out.done (kept_b HK1.out) HG1.out HF1.out (kept_b hk2) hg2 hf2
  have D1 := Lib.hid d1
  have D2 := Lib.hid ((Loc.same L0.out (Nat.le_refl _) b l1 rb l2).trans d2)
  have HC2 := Lib.hid hC2
  clear d1 d2 hg2 hk2 hC2 hf2 z1 z2
  go_wp2_with fail
  go_ret
  exact ⟨rfl, l1', es1', l2', es2', HC1.out, HC2.out, D1.out, D2.out⟩
/-- What a Match answers. -/
def mtR (l : Lg) (es : List Ent) (i t : Int) (n : Nat) (ys : List Ent) : Int × Bool :=
  if matOk l es i t ys = false then (0, false) else if n ≤ matK l es ys then (i + n, true) else if i + matK l es ys + 1 ≤ l.com then (0, false) else (i + n, true)
/-- What a Match leaves of a log. -/
def Mtd (l : Lg) (es : List Ent) (i t : Int) (n : Nat) (ys : List Ent) (l' : Lg) (es' : List Ent) : Prop :=
  ((matOk l es i t ys && (decide (matK l es ys < n) && decide (l.com < i + matK l es ys + 1))) = false ∧ l' = l ∧ es' = es) ∨
  ((matOk l es i t ys && (decide (matK l es ys < n) && decide (l.com < i + matK l es ys + 1))) = true ∧ ∃ a c, l' = matL l i (matK l es ys) n a c ∧ es' = matE l es i (matK l es ys) ys)
theorem mtd_log (m b : Nat) (l : Lg) (es : List Ent) (a : Option Addr) (n c : Nat) (ys : List Ent) (i t : Int) (w : World)
    (hg : LG w m b l es) (ho : Ok l (pts es)) (hy : ER w a n ys) (hk : EKs w ys) (hn : n ≤ 1000) (hnc : n ≤ c) :
    Calls Try.prog 12 #[.pointer (some ⟨b, 0, none⟩), .int .i64 i, .int .i64 t, .slice a n c] w fun e w' => e = .returned (.tuple #[.int .i64 (mtR l es i t n ys).1, .bool (mtR l es i t n ys).2]) ∧ ∃ l' es', Mtd l es i t n ys l' es' ∧ LG w' m b l' es' ∧ Kept (· = b) w w' ∧ ∀ j, gOf l' = some j → gOf l = some j ∨ w.heap.size ≤ j := by
  refine (match_any m b l es a n c ys i t w hg ho hy hk hn hnc).mono ?_
  rintro e w' (⟨h1, rfl, h2, h3⟩ | ⟨h1, h2, rfl, h3, h4⟩ | ⟨h1, h2, h3, rfl, h4, h5⟩ | ⟨h1, h2, h3, rfl, a', c', h4, h5, h6⟩)
  · exact ⟨by rw [mtR, if_pos h1], l, es, .inl ⟨by rw [h1]; rfl, rfl, rfl⟩, h2, Kept.of h3 (Nat.le_refl _), fun j hj => .inl hj⟩
  · exact ⟨by rw [mtR, if_neg (by rw [h1]; decide), if_pos h2], l, es, .inl ⟨by rw [h1, decide_eq_false (by omega)]; rfl, rfl, rfl⟩, h3, Kept.of h4 (Nat.le_refl _), fun j hj => .inl hj⟩
  · exact ⟨by rw [mtR, if_neg (by rw [h1]; decide), if_neg (by omega), if_pos h3], l, es, .inl ⟨by rw [h1, decide_eq_true h2, decide_eq_false (by omega)]; rfl, rfl, rfl⟩, h4, Kept.of h5 (Nat.le_refl _), fun j hj => .inl hj⟩
  · exact ⟨by rw [mtR, if_neg (by rw [h1]; decide), if_neg (by omega), if_neg (by omega)], _, _, .inr ⟨by rw [h1, decide_eq_true h2, decide_eq_true h3]; rfl, a', c', rfl, rfl⟩, h4, h6, fun j hj => .inr (h5 j hj)⟩
theorem mtd_ref (m b : Nat) (l : Lg) (es : List Ent) (a : Option Addr) (n c : Nat) (ys : List Ent) (i t : Int) (w : World)
    (hg : RG w m b l es) (ho : Ok l (pts es)) (hy : ER w a n ys) (hk : EKs w ys) (hn : n ≤ 1000) (hnc : n ≤ c) :
    Calls Try.prog 45 #[.pointer (some ⟨b, 0, none⟩), .int .i64 i, .int .i64 t, .slice a n c] w fun e w' => e = .returned (.tuple #[.int .i64 (mtR l es i t n ys).1, .bool (mtR l es i t n ys).2]) ∧ ∃ l' es', Mtd l es i t n ys l' es' ∧ RG w' m b l' es' ∧ Kept (· = b) w w' ∧ ∀ j, gOf l' = some j → gOf l = some j ∨ w.heap.size ≤ j := by
  refine (refmatch_any m b l es a n c ys i t w hg ho hy hk hn hnc).mono ?_
  rintro e w' (⟨h1, rfl, h2, h3⟩ | ⟨h1, h2, rfl, h3, h4⟩ | ⟨h1, h2, h3, rfl, h4, h5⟩ | ⟨h1, h2, h3, rfl, a', c', h4, h5, h6⟩)
  · exact ⟨by rw [mtR, if_pos h1], l, es, .inl ⟨by rw [h1]; rfl, rfl, rfl⟩, h2, Kept.of h3 (Nat.le_refl _), fun j hj => .inl hj⟩
  · exact ⟨by rw [mtR, if_neg (by rw [h1]; decide), if_pos h2], l, es, .inl ⟨by rw [h1, decide_eq_false (by omega)]; rfl, rfl, rfl⟩, h3, Kept.of h4 (Nat.le_refl _), fun j hj => .inl hj⟩
  · exact ⟨by rw [mtR, if_neg (by rw [h1]; decide), if_neg (by omega), if_pos h3], l, es, .inl ⟨by rw [h1, decide_eq_true h2, decide_eq_false (by omega)]; rfl, rfl, rfl⟩, h4, Kept.of h5 (Nat.le_refl _), fun j hj => .inl hj⟩
  · exact ⟨by rw [mtR, if_neg (by rw [h1]; decide), if_neg (by omega), if_neg (by omega)], _, _, .inr ⟨by rw [h1, decide_eq_true h2, decide_eq_true h3]; rfl, a', c', rfl, rfl⟩, h4, h6, fun j hj => .inr (h5 j hj)⟩
/-- A row of entries that lies below m. -/
structure Yn (w0 : World) (m : Nat) (w : World) (a : Option Addr) (n : Nat) (ys : List Ent) : Prop where
  er : ER w0 a n ys
  kn : Kn w0 m w ys
theorem Yn.below {w0 m w w' a n ys} (h : Yn w0 m w a n ys) (hb : Below m w w') : Yn w0 m w' a n ys := ⟨h.er, h.kn.below hb⟩
theorem Yn.now {w0 m w a n ys} (h : Yn w0 m w a n ys) : ER w a n ys := h.er.keep h.kn.hm h.kn.hb
theorem act1 (m b : Nat) (l1 : Lg) (es1 : List Ent) (rb : Nat) (l2 : Lg) (es2 : List Ent) (N M : Int) (a : Option Addr) (n c : Nat) (ys : List Ent) (w : World) (h : Two w m b l1 es1 rb l2 es2) (i1 : Inv l1 es1) (i2 : Inv l2 es2) (w0 : World) (Y : Yn w0 m w a n ys) (hn : n ≤ 1000) (hnc : n ≤ c) :
    Calls Try.prog 25 #[.pointer (some ⟨b, 0, none⟩), .pointer (some ⟨rb, 0, none⟩), .agg #[.int .i64 1, .int .i64 N, .int .i64 M, .slice a n c]] w fun e w' => e = .returned (.bool ((mtR l1 es1 N M n ys).1 == (mtR l2 es2 N M n ys).1 && (mtR l1 es1 N M n ys).2 == (mtR l2 es2 N M n ys).2)) ∧ (∃ l1' es1' l2' es2', Mtd l1 es1 N M n ys l1' es1' ∧ Mtd l2 es2 N M n ys l2' es2' ∧ Two w' m b l1' es1' rb l2' es2' ∧ Loc w w' b l1 l1' rb l2 l2') := by
  have L0 : Hid (Below w.heap.size w (w.alloc (.cells #[.int .i64 1, .int .i64 N, .int .i64 M, .slice a n c] 48))) := (Below.refl _ w).alloc (Nat.le_refl _) _
  have T0 := Lib.hid (h.below (Nat.le_refl _) L0.out)
  have Y0 := Lib.hid (Y.below (L0.out.mono h.ms))
  have I1 := Lib.hid i1
  have I2 := Lib.hid i2
  have hb1 := h.lg.lb.lt
  have hb2 := h.rg.lb.lt
  have HMS := Lib.hid h.ms
  have HN := Lib.hid hn
  have HNC := Lib.hid hnc
  clear h i1 i2 Y hn hnc
  go_enter Try.func25, Try.ntmps25
  go_wp2_with fail
  refine (mtd_log m b l1 es1 a n c ys N M _ T0.out.lg I1.out.ok Y0.out.now Y0.out.kn.eks HN.out HNC.out).mono ?_
  rintro e w1 ⟨rfl, l1', es1', hC1, hg1, hk1, hf1⟩
  have z1 : w1.cell? ⟨w.heap.size, 1, none⟩ = some (.int .i64 N) := kept_cell (p := ⟨w.heap.size, 1, none⟩) hk1 (by simp) (by show ¬ w.heap.size = b; omega)
  have z2 : w1.cell? ⟨w.heap.size, 2, none⟩ = some (.int .i64 M) := kept_cell (p := ⟨w.heap.size, 2, none⟩) hk1 (by simp) (by show ¬ w.heap.size = b; omega)
  have z3 : w1.cell? ⟨w.heap.size, 3, none⟩ = some (.slice a n c) := kept_cell (p := ⟨w.heap.size, 3, none⟩) hk1 (by simp) (by show ¬ w.heap.size = b; omega)
  have Y1 := Lib.hid (Y0.out.below (hk1.below (Nat.le_trans HMS.out L0.out.size) (fun k hk => by rw [hk]; exact T0.out.lg.mb)))
  have HC1 := Lib.hid hC1
  have HF1 := Lib.hid hf1
  have HG1 := Lib.hid hg1
  have HK1 := Lib.hid hk1
  clear hg1 hk1 hC1 hf1
  generalize hr1 : mtR l1 es1 N M n ys = r1 at *
  obtain ⟨q1, o1⟩ := r1
  have HR1 := Lib.hid hr1
  clear hr1
  go_wp2_with fail
  refine (mtd_ref m rb l2 es2 a n c ys N M _ (T0.out.rg1 (kept_b HK1.out)) I2.out.ok Y1.out.now Y1.out.kn.eks HN.out HNC.out).mono ?_
  rintro e w2 ⟨rfl, l2', es2', hC2, hg2, hk2, hf2⟩
  obtain ⟨d1, d2⟩ := T0.out.done (kept_b HK1.out) HG1.out HF1.out (kept_b hk2) hg2 hf2
  have D1 := Lib.hid d1
  have D2 := Lib.hid ((Loc.same L0.out (Nat.le_refl _) b l1 rb l2).trans d2)
  have HC2 := Lib.hid hC2
  clear d1 d2 hg2 hk2 hC2 hf2 z1 z2 z3
  generalize hr2 : mtR l2 es2 N M n ys = r2 at *
  obtain ⟨q2, o2⟩ := r2
  have HR2 := Lib.hid hr2
  clear hr2
  cases hv : (q1 == q2)
  · have HV := Lib.hid hv
    go_wp2_with fail
    go_ret
    exact ⟨ret_bool (by rw [HR1.out, HR2.out]; show _ = (_ && _); rw [HV.out]; rfl), l1', es1', l2', es2', HC1.out, HC2.out, D1.out, D2.out⟩
  · have HV := Lib.hid hv
    go_wp2_with fail
    go_ret
    exact ⟨ret_bool (by rw [HR1.out, HR2.out]; show _ = (_ && _); rw [HV.out]; rfl), l1', es1', l2', es2', HC1.out, HC2.out, D1.out, D2.out⟩
end Go.Proofs.Ytbgfpmnicpmieaa

/- Two logs that say the same, and an act on both. -/
namespace Go.Proofs.Ytbgfpmnicpmieaa
open Go Go.RowKit Go.Shelf Go.Sort
set_option linter.unusedVariables false
set_option linter.unusedSimpArgs false
set_option maxRecDepth 100000
set_option maxHeartbeats 1000000
/-- Two logs that say the same: all but where their rows lie. -/
def Sim (l r : Lg) : Prop := ∃ a c, r = { l with a := a, c := c }
theorem Sim.inv {l r : Lg} {es : List Ent} (h : Sim l r) (hi : Inv l es) : Inv r es := by
  obtain ⟨a, c, rfl⟩ := h
  exact ⟨⟨hi.ok.is, hi.ok.len, hi.ok.row, hi.ok.small, hi.ok.lo, hi.ok.hi⟩, hi.ch, hi.a1, hi.a2, hi.a3, hi.s1, hi.s2, hi.top⟩
theorem Sim.com {l r : Lg} (h : Sim l r) (i : Int) : comB r i = comB l i ∧ Sim (comL l i) (comL r i) := by
  obtain ⟨a, c, rfl⟩ := h
  refine ⟨rfl, ?_⟩
  have e : comB { l with a := a, c := c } i = comB l i := rfl
  unfold comL
  rw [e]
  split
  · exact ⟨a, c, rfl⟩
  · exact ⟨a, c, rfl⟩
theorem Sim.sur {l r : Lg} (h : Sim l r) (i : Int) : Sim (surL l i) (surL r i) := by
  obtain ⟨a, c, rfl⟩ := h
  exact ⟨a, c, rfl⟩
theorem Sim.app {l r : Lg} (h : Sim l r) (es : List Ent) (i : Int) : appE r es i = appE l es i ∧ Sim (appL l i) (appL r i) := by
  obtain ⟨a, c, rfl⟩ := h
  refine ⟨rfl, ?_⟩
  have e : appN { l with a := a, c := c } i = appN l i := rfl
  unfold appL
  rw [e]
  split
  · exact ⟨a, c, rfl⟩
  · exact ⟨a, c, rfl⟩
theorem Sim.cpt {l r l' r' : Lg} {es es1 es2 : List Ent} (h : Sim l r) {i : Int} (h1 : Cpt l es i l' es1) (h2 : Cpt r es i r' es2) : cptB r i = cptB l i ∧ es1 = es2 ∧ Sim l' r' := by
  obtain ⟨a, c, rfl⟩ := h
  have e : cptB { l with a := a, c := c } i = cptB l i := rfl
  refine ⟨e, ?_⟩
  rcases h1 with ⟨h1, rfl, rfl⟩ | ⟨h1, a1, c1, rfl, rfl⟩
  · rcases h2 with ⟨h2, rfl, rfl⟩ | ⟨h2, a2, c2, rfl, rfl⟩
    · exact ⟨rfl, a, c, rfl⟩
    · rw [e, h1] at h2; cases h2
  · rcases h2 with ⟨h2, rfl, rfl⟩ | ⟨h2, a2, c2, rfl, rfl⟩
    · rw [e, h1] at h2; cases h2
    · exact ⟨rfl, a2, c2, rfl⟩
theorem Sim.rsd {l r l' r' : Lg} {es es1 es2 : List Ent} (h : Sim l r) {i t : Int} (h1 : Rsd l es i t l' es1) (h2 : Rsd r es i t r' es2) : es1 = es2 ∧ Sim l' r' := by
  obtain ⟨a, c, rfl⟩ := h
  rcases h1 with ⟨h1, rfl, rfl⟩ | ⟨h1, a1, c1, rfl, rfl⟩
  · rcases h2 with ⟨h2, rfl, rfl⟩ | ⟨h2, a2, c2, rfl, rfl⟩
    · exact ⟨rfl, a, c, rfl⟩
    · rw [h1] at h2; cases h2
  · rcases h2 with ⟨h2, rfl, rfl⟩ | ⟨h2, a2, c2, rfl, rfl⟩
    · rw [h1] at h2; cases h2
    · exact ⟨rfl, a2, c2, rfl⟩
theorem first_sim (l : Lg) (a : Option Addr) (c : Nat) (ps : List (Int × Int)) : ∀ ys, firstO { l with a := a, c := c } ps ys = firstO l ps ys
  | [] => rfl
  | y :: ys => by
    rw [firstO, firstO, first_sim l a c ps ys]
    rfl
theorem Sim.mtd {l r l' r' : Lg} {es es1 es2 : List Ent} (h : Sim l r) {i t : Int} {n : Nat} {ys : List Ent} (h1 : Mtd l es i t n ys l' es1) (h2 : Mtd r es i t n ys r' es2) : mtR r es i t n ys = mtR l es i t n ys ∧ es1 = es2 ∧ Sim l' r' := by
  obtain ⟨a, c, rfl⟩ := h
  have e1 : matOk { l with a := a, c := c } es i t ys = matOk l es i t ys := rfl
  have e2 : matK { l with a := a, c := c } es ys = matK l es ys := first_sim l a c (pts es) ys
  refine ⟨by unfold mtR; rw [e1, e2], ?_⟩
  unfold Mtd at h1 h2
  rw [e1, e2] at h2
  rcases h1 with ⟨h1, rfl, rfl⟩ | ⟨h1, a1, c1, rfl, rfl⟩
  · rcases h2 with ⟨h2, rfl, rfl⟩ | ⟨h2, a2, c2, rfl, rfl⟩
    · exact ⟨rfl, a, c, rfl⟩
    · exact absurd (h1.symm.trans h2) (by decide)
  · rcases h2 with ⟨h2, rfl, rfl⟩ | ⟨h2, a2, c2, rfl, rfl⟩
    · exact absurd (h2.symm.trans h1) (by decide)
    · exact ⟨rfl, a2, c2, rfl⟩
/-- What an Append leaves of a log. -/
def Adt (l : Lg) (es : List Ent) (x : Ent) (l' : Lg) (es' : List Ent) : Prop :=
  (addB l es x = false ∧ l' = l ∧ es' = es) ∨ (addB l es x = true ∧ ∃ a c, l' = { l with a := a, n := l.n + 1, c := c } ∧ es' = es ++ [x])
def addR (l : Lg) (es : List Ent) (x : Ent) : Int := if addB l es x then 0 else 2
theorem Sim.adt {l r l' r' : Lg} {es es1 es2 : List Ent} (h : Sim l r) {x : Ent} (h1 : Adt l es x l' es1) (h2 : Adt r es x r' es2) : es1 = es2 ∧ Sim l' r' := by
  obtain ⟨a, c, rfl⟩ := h
  have e : addB { l with a := a, c := c } es x = addB l es x := rfl
  rcases h1 with ⟨h1, rfl, rfl⟩ | ⟨h1, a1, c1, rfl, rfl⟩
  · rcases h2 with ⟨h2, rfl, rfl⟩ | ⟨h2, a2, c2, rfl, rfl⟩
    · exact ⟨rfl, a, c, rfl⟩
    · rw [e, h1] at h2; cases h2
  · rcases h2 with ⟨h2, rfl, rfl⟩ | ⟨h2, a2, c2, rfl, rfl⟩
    · rw [e, h1] at h2; cases h2
    · exact ⟨rfl, a2, c2, rfl⟩
theorem Sim.addR {l r : Lg} (h : Sim l r) (es : List Ent) (x : Ent) : addR r es x = addR l es x := by
  obtain ⟨a, c, rfl⟩ := h
  rfl
theorem add_log (m b : Nat) (l : Lg) (es : List Ent) (x : Ent) (w : World) (hg : LG w m b l es) (hi : Inv l es) (hx : EK w x) :
    Calls Try.prog 26 #[.pointer (some ⟨b, 0, none⟩), x.v] w fun e w' => e = .returned (.int .i64 (addR l es x)) ∧ ∃ l' es', Adt l es x l' es' ∧ LG w' m b l' es' ∧ Kept (Own1 b l) w w' ∧ ∀ j, gOf l' = some j → gOf l = some j ∨ w.heap.size ≤ j := by
  refine (append_any m b l es x w hg hi hx).mono ?_
  rintro e w' (⟨h1, rfl, h2, h3⟩ | ⟨h1, rfl, h3, a, c, h4, h5⟩)
  · exact ⟨by rw [addR, h1]; rfl, l, es, .inl ⟨h1, rfl, rfl⟩, h2, Kept.of h3 (Nat.le_refl _), fun j hj => .inl hj⟩
  · exact ⟨by rw [addR, h1]; rfl, _, _, .inr ⟨h1, a, c, rfl, rfl⟩, h4, h3, h5⟩
theorem add_ref (m b : Nat) (l : Lg) (es : List Ent) (x : Ent) (w : World) (hg : RG w m b l es) (hi : Inv l es) (hx : EK w x) :
    Calls Try.prog 44 #[.pointer (some ⟨b, 0, none⟩), x.v] w fun e w' => e = .returned (.int .i64 (addR l es x)) ∧ ∃ l' es', Adt l es x l' es' ∧ RG w' m b l' es' ∧ Kept (· = b) w w' ∧ ∀ j, gOf l' = some j → gOf l = some j ∨ w.heap.size ≤ j := by
  refine (refappend_any m b l es x w hg hi hx).mono ?_
  rintro e w' (⟨h1, rfl, h2, h3⟩ | ⟨h1, rfl, h3, a, c, h4, h5⟩)
  · exact ⟨by rw [addR, h1]; rfl, l, es, .inl ⟨h1, rfl, rfl⟩, h2, Kept.of h3 (Nat.le_refl _), fun j hj => .inl hj⟩
  · exact ⟨by rw [addR, h1]; rfl, _, _, .inr ⟨h1, a, c, rfl, rfl⟩, h4, h3, fun j hj => .inr (h5 j hj)⟩
/-- The state of the law: both logs, which say the same. -/
structure AS (w0 w : World) (b rb : Nat) (l r : Lg) (es : List Ent) (cnt : Nat) : Prop where
  two : Two w w0.heap.size b l es rb r es
  inv : Inv l es
  sim : Sim l r
  kn : Kn w0 w0.heap.size w es
  n1 : l.n ≤ 200 + cnt
  n2 : l.ix + l.n ≤ 1099511627976 + cnt
theorem AS.low {w0 w b rb l r es cnt} (h : AS w0 w b rb l r es cnt) : Below w0.heap.size w0 w := h.kn.hb
theorem AS.inv2 {w0 w b rb l r es cnt} (h : AS w0 w b rb l r es cnt) : Inv r es := h.sim.inv h.inv
theorem AS.below {w0 w w' b rb l r es cnt} {k : Nat} (h : AS w0 w b rb l r es cnt) (hk : w.heap.size ≤ k) (hb : Below k w w') : AS w0 w' b rb l r es cnt :=
  ⟨h.two.below hk hb, h.inv, h.sim, h.kn.below (hb.mono (Nat.le_trans h.kn.hb.size hk)), h.n1, h.n2⟩
theorem AS.more {w0 w b rb l r es c d} (h : AS w0 w b rb l r es c) (hd : c ≤ d) : AS w0 w b rb l r es d := ⟨h.two, h.inv, h.sim, h.kn, by have := h.n1; omega, by have := h.n2; omega⟩
theorem AS.step {w0 w w' b rb l r es cnt l' r' es' ys q d} (h : AS w0 w b rb l r es cnt) (ht : Two w' w0.heap.size b l' es' rb r' es') (hl : Loc w w' b l l' rb r r') (hs : Stp l es ys q l' es') (hm : Sim l' r') (hy : Kn w0 w0.heap.size w ys) (hd : d = cnt + q) : AS w0 w' b rb l' r' es' d := by
  have hb := h.two.low hl
  have a1 := hs.n1; have a2 := hs.n2; have b1 := h.n1; have b2 := h.n2
  refine ⟨ht, hs.inv, hm, ⟨fun x hx => ?_, fun x hx => ?_, Nat.le_refl _, h.kn.hb.trans hb⟩, by omega, by omega⟩
  · rcases hs.mem x hx with h1 | h1
    · exact h.kn.ek x h1
    · exact hy.ek x h1
  · rcases hs.mem x hx with h1 | h1
    · exact h.kn.lt x h1
    · exact hy.lt x h1
theorem rest_inv {i t : Int} (h : resB i t = true) (a : Option Addr) (c : Nat) : Inv (resL i t a c) [] := by
  simp only [resB, Bool.and_eq_true, decide_eq_true_eq] at h
  refine ⟨⟨rfl, rfl, fun j hj => absurd hj (Nat.not_lt_zero _), ?_, ?_, ?_⟩, rfl, ?_, ?_, ?_, ?_, ?_, ?_⟩ <;> (simp only [resL]; omega)
theorem kn_nil {w0 w es} (h : Kn w0 w0.heap.size w es) : Kn w0 w0.heap.size w ([] : List Ent) := h.sub (fun y hy => by cases hy)
theorem AS.rest {w0 w w' b rb l r es cnt l' r' es1 es2 i t} (h : AS w0 w b rb l r es cnt) (h1 : Rsd l es i t l' es1) (h2 : Rsd r es i t r' es2) (ht : Two w' w0.heap.size b l' es1 rb r' es2) (hl : Loc w w' b l l' rb r r') : AS w0 w' b rb l' r' es1 cnt := by
  obtain ⟨rfl, hm⟩ := h.sim.rsd h1 h2
  have hb := h.two.low hl
  rcases h1 with ⟨h3, rfl, rfl⟩ | ⟨h3, a1, c1, rfl, rfl⟩
  · exact ⟨ht, h.inv, hm, h.kn.below hb, h.n1, h.n2⟩
  · refine ⟨ht, rest_inv h3 a1 c1, hm, (kn_nil h.kn).below hb, ?_, ?_⟩
    · show 0 ≤ 200 + cnt; omega
    · simp only [resB, Bool.and_eq_true, decide_eq_true_eq] at h3
      show i + ((0 : Nat) : Int) ≤ _
      omega
theorem mtd_stp {l l' : Lg} {es es' ys : List Ent} {i t : Int} {n : Nat} (h : Inv l es) (hm : Mtd l es i t n ys l' es') (hn : l.n + n ≤ 1000) (ht : l.ix + l.n + n ≤ 2199023255552) (hyl : ys.length = n) : Stp l es ys n l' es' := by
  rcases hm with ⟨_, rfl, rfl⟩ | ⟨hm, a, c, rfl, rfl⟩
  · exact Stp.refl h _ _
  · simp only [Bool.and_eq_true, decide_eq_true_eq] at hm
    exact stp_mat h hm.1 (by omega) hm.2.2 (by omega) (by omega) a c n hyl
theorem adt_stp {l l' : Lg} {es es' : List Ent} {x : Ent} (h : Inv l es) (hx : Adt l es x l' es') (hn : l.n + 1 ≤ 1000) (ht : l.ix + l.n + 1 ≤ 2199023255552) : Stp l es [x] 1 l' es' := by
  rcases hx with ⟨_, rfl, rfl⟩ | ⟨hx, a, c, rfl, rfl⟩
  · exact Stp.refl h _ _
  · exact stp_add h hx hn ht a c
/-- What an act leaves of both logs. -/
def ActA (w0 : World) (b rb : Nat) (cnt : Nat) (e : Ending) (w' : World) : Prop :=
  e = .returned (.bool true) ∧ ∃ l' r' es', AS w0 w' b rb l' r' es' cnt
theorem box_kept {x : Ent} {w w' : World} {s : Nat} (h : ∀ c, c < 13 → w.cell? ⟨s, c, none⟩ = some (x.cs'.getD c undef)) (hk : Kept (fun j => j < s) w w') : ∀ W, W = w' → W.cell? ⟨s, 0, none⟩ = some (.int .i64 x.i) ∧ W.cell? ⟨s, 1, none⟩ = some (.int .i64 x.t) ∧ W.cell? ⟨s, 2, none⟩ = some (.int .i64 x.k) ∧ W.cell? ⟨s, 3, none⟩ = some (.int .i64 x.ck) ∧ W.cell? ⟨s, 4, none⟩ = some (.int .i64 x.cs) ∧ W.cell? ⟨s, 5, none⟩ = some (.int .i64 x.cq) ∧ W.cell? ⟨s, 6, none⟩ = some (.string x.a) ∧ W.cell? ⟨s, 7, none⟩ = some (.string x.b) ∧ W.cell? ⟨s, 8, none⟩ = some (.string x.c) ∧ W.cell? ⟨s, 9, none⟩ = some (.string x.d) ∧ W.cell? ⟨s, 10, none⟩ = some (.int .i64 x.l) ∧ W.cell? ⟨s, 11, none⟩ = some (.slice x.va x.vn x.vc) ∧ W.cell? ⟨s, 12, none⟩ = some (.slice x.la x.ln x.lc) := by
  rintro W rfl
  have g : ∀ c, c < 13 → W.cell? ⟨s, c, none⟩ = some (x.cs'.getD c undef) := fun c hc => kept_cell (p := ⟨s, c, none⟩) hk (h c hc) (Nat.lt_irrefl s)
  exact ⟨g 0 (by omega), g 1 (by omega), g 2 (by omega), g 3 (by omega), g 4 (by omega), g 5 (by omega), g 6 (by omega), g 7 (by omega), g 8 (by omega), g 9 (by omega), g 10 (by omega), g 11 (by omega), g 12 (by omega)⟩
theorem act0 (w0 w : World) (b rb : Nat) (l r : Lg) (es : List Ent) (cnt : Nat) (N M : Int) (a : Option Addr) (n c : Nat) (ys : List Ent) (h : AS w0 w b rb l r es cnt) (Y : Yn w0 w0.heap.size w a n ys) (hn : cnt + n ≤ 300) (hnc : n ≤ c) :
    Calls Try.prog 25 #[.pointer (some ⟨b, 0, none⟩), .pointer (some ⟨rb, 0, none⟩), .agg #[.int .i64 0, .int .i64 N, .int .i64 M, .slice a n c]] w (ActA w0 b rb (cnt + n)) := by
  have L0 : Hid (Below w.heap.size w (w.alloc (.cells #[.int .i64 0, .int .i64 N, .int .i64 M, .slice a n c] 48))) := (Below.refl _ w).alloc (Nat.le_refl _) _
  have S0 := Lib.hid (h.below (Nat.le_refl _) L0.out)
  have Y0 := Lib.hid (Y.below (L0.out.mono h.low.size))
  have HN := Lib.hid hn
  clear h Y
  go_enter Try.func25, Try.ntmps25
  go_wp2_with fail
  generalize w.alloc (.cells #[.int .i64 0, .int .i64 N, .int .i64 M, .slice a n c] 48) = wA at *
  go_loopw [24] (fun iv wr => ∃ (j : Nat) (l' r' : Lg) (es' : List Ent), j ≤ n ∧ iv = .int .i64 j ∧ AS w0 wr b rb l' r' es' (cnt + j)) (fun iv _ => n - (intOf iv).toNat)
  case atStart => exact ⟨0, l, r, es, Nat.zero_le _, rfl, S0.out⟩
  case round =>
    obtain ⟨j, l', r', es', hj, rfl, hS⟩ := hrel
    have S6 := Lib.hid hS
    have R6 := Y0.out.er.keep (Nat.le_refl _) hS.low
    have hyl : ys.length = n := Y0.out.er.1
    clear hS
    by_cases hjl : j < n
    · obtain ⟨pb, po, rfl, hc⟩ := R6.row hjl
      have hjm : ys.getD j default ∈ ys := getD_mem (by omega)
      have HJM := Lib.hid hjm
      have q0 := hc 0 (by omega)
      have q1 := hc 1 (by omega)
      have q2 := hc 2 (by omega)
      have q3 := hc 3 (by omega)
      have q4 := hc 4 (by omega)
      have q5 := hc 5 (by omega)
      have q6 := hc 6 (by omega)
      have q7 := hc 7 (by omega)
      have q8 := hc 8 (by omega)
      have q9 := hc 9 (by omega)
      have q10 := hc 10 (by omega)
      have q11 := hc 11 (by omega)
      have q12 := hc 12 (by omega)
      clear hc R6 hjm
      generalize ys.getD j default = e at *
      simp only [List.getD_cons_zero, List.getD_cons_succ] at q0 q1 q2 q3 q4 q5 q6 q7 q8 q9 q10 q11 q12
      rw [Nat.add_zero] at q0
      have LE : Below wr.heap.size wr (wr.alloc (.cells e.cs'.toArray 37)) := (Below.refl _ wr).alloc (Nat.le_refl _) _
      have S7 := Lib.hid (S6.out.below (Nat.le_refl _) LE)
      have hcx : Hid (∀ c, c < 13 → (wr.alloc (.cells e.cs'.toArray 37)).cell? ⟨wr.heap.size, c, none⟩ = some (e.cs'.getD c undef)) := by
        show ∀ c, _
        intro c hc
        obtain h | h | h | h | h | h | h | h | h | h | h | h | h : c = 0 ∨ c = 1 ∨ c = 2 ∨ c = 3 ∨ c = 4 ∨ c = 5 ∨ c = 6 ∨ c = 7 ∨ c = 8 ∨ c = 9 ∨ c = 10 ∨ c = 11 ∨ c = 12 := by omega
        all_goals (subst h; simp [List.getD])
      have HLT : Hid (b < wr.heap.size ∧ rb < wr.heap.size ∧ ∀ j, gOf l' = some j → j < wr.heap.size) := ⟨S6.out.two.lg.lb.lt, S6.out.two.rg.lb.lt, fun j hj => (S6.out.two.lg.lt hj).2⟩
      clear S6
      go_upto_region 6 with fail
      clear q0 q1 q2 q3 q4 q5 q6 q7 q8 q9 q10 q11 q12
      generalize wr.alloc (.cells e.cs'.toArray 37) = wE at *
      have SD := Lib.hid (S7.out.below (Nat.le_refl _) (Below.refl _ _).drew)
      have KD : Hid (Kept (fun j => j < wr.heap.size) wE wE.drew) := Kept.of (Below.refl _ _).drew (Nat.le_refl _)
      have BK : Hid (∀ W, Kept (fun j => j < wr.heap.size) wE W → W.cell? ⟨wr.heap.size, 0, none⟩ = some (.int .i64 e.i) ∧ W.cell? ⟨wr.heap.size, 1, none⟩ = some (.int .i64 e.t) ∧ W.cell? ⟨wr.heap.size, 2, none⟩ = some (.int .i64 e.k) ∧ W.cell? ⟨wr.heap.size, 3, none⟩ = some (.int .i64 e.ck) ∧ W.cell? ⟨wr.heap.size, 4, none⟩ = some (.int .i64 e.cs) ∧ W.cell? ⟨wr.heap.size, 5, none⟩ = some (.int .i64 e.cq) ∧ W.cell? ⟨wr.heap.size, 6, none⟩ = some (.string e.a) ∧ W.cell? ⟨wr.heap.size, 7, none⟩ = some (.string e.b) ∧ W.cell? ⟨wr.heap.size, 8, none⟩ = some (.string e.c) ∧ W.cell? ⟨wr.heap.size, 9, none⟩ = some (.string e.d) ∧ W.cell? ⟨wr.heap.size, 10, none⟩ = some (.int .i64 e.l) ∧ W.cell? ⟨wr.heap.size, 11, none⟩ = some (.slice e.va e.vn e.vc) ∧ W.cell? ⟨wr.heap.size, 12, none⟩ = some (.slice e.la e.ln e.lc)) := fun W hk => box_kept hcx.out hk W rfl
      have LT1 : Hid (∀ j, Own1 b l' j → j < wr.heap.size) := fun j hj => by
        rcases hj with e | e
        · rw [e]; exact HLT.out.1
        · exact HLT.out.2.2 j e
      have LT2 : Hid (∀ j, j = rb → j < wr.heap.size) := fun j hj => by rw [hj]; exact HLT.out.2.1
      have HE1 : Hid (EK wE.drew e) := (Y0.out.kn.ek e HJM.out).keep (Nat.le_refl _) SD.out.low
      have LOW1 : Hid (∀ k, Own1 b l' k → w0.heap.size ≤ k) := fun k hk => by
        rcases hk with e | e
        · rw [e]; exact SD.out.two.lg.mb
        · exact (SD.out.two.lg.lt e).1
      go_region_held3 (fun W => W.cell? ⟨wr.heap.size, 0, none⟩ = some (.int .i64 e.i) ∧ W.cell? ⟨wr.heap.size, 1, none⟩ = some (.int .i64 e.t) ∧ W.cell? ⟨wr.heap.size, 2, none⟩ = some (.int .i64 e.k) ∧ W.cell? ⟨wr.heap.size, 3, none⟩ = some (.int .i64 e.ck) ∧ W.cell? ⟨wr.heap.size, 4, none⟩ = some (.int .i64 e.cs) ∧ W.cell? ⟨wr.heap.size, 5, none⟩ = some (.int .i64 e.cq) ∧ W.cell? ⟨wr.heap.size, 6, none⟩ = some (.string e.a) ∧ W.cell? ⟨wr.heap.size, 7, none⟩ = some (.string e.b) ∧ W.cell? ⟨wr.heap.size, 8, none⟩ = some (.string e.c) ∧ W.cell? ⟨wr.heap.size, 9, none⟩ = some (.string e.d) ∧ W.cell? ⟨wr.heap.size, 10, none⟩ = some (.int .i64 e.l) ∧ W.cell? ⟨wr.heap.size, 11, none⟩ = some (.slice e.va e.vn e.vc) ∧ W.cell? ⟨wr.heap.size, 12, none⟩ = some (.slice e.la e.ln e.lc))
        (first | exact BK.out _ (Kept.refl _ _) | exact BK.out _ KD.out | exact BK.out _ (KD.out.trans (hk1.weaken LT1.out)) | exact BK.out _ ((KD.out.trans (hk1.weaken LT1.out)).trans (hk2.weaken LT2.out)))
        (first
          | (go_at_call 26; (with_reducible refine (add_log w0.heap.size b l' es' e _ SD.out.two.lg SD.out.inv HE1.out).mono ?_); rintro e1 w1 ⟨rfl, l8, es8, hA1, hg1, hk1, hf1⟩)
          | (go_at_call 44; refine (add_ref w0.heap.size rb r' es' e _ (SD.out.two.rg1 hk1) SD.out.inv2 ((Y0.out.kn.ek e HJM.out).keep (Nat.le_refl _) (SD.out.low.trans (hk1.below (SD.out.low.size) LOW1.out)))).mono ?_; rintro e2 w2 ⟨rfl, r8, es9, hA2, hg2, hk2, hf2⟩))
      all_goals (
        obtain ⟨d1, d2⟩ := SD.out.two.done hk1 hg1 hf1 (kept_b hk2) hg2 hf2
        obtain ⟨rfl, hsm⟩ := SD.out.sim.adt hA1 hA2
        have D1 := Lib.hid (SD.out.step (d := cnt + (j + 1)) d1 d2 (adt_stp SD.out.inv hA1 (by have := SD.out.n1; have := HN.out; omega) (by have := SD.out.n2; have := HN.out; omega)) hsm (⟨fun y hy => by rw [List.mem_singleton] at hy; rw [hy]; exact Y0.out.kn.ek e HJM.out, fun y hy => by rw [List.mem_singleton] at hy; rw [hy]; exact Y0.out.kn.lt e HJM.out, Nat.le_refl _, SD.out.low⟩) (by omega))
        have HAR := SD.out.sim.addR es' e
        clear d1 d2 hA1 hA2 hg1 hk1 hf1 hg2 hk2 hf2 SD KD BK S7
        rename_i hHeld
        clear hHeld
        go_wp2_with fail
        go_roundw
        case rel => exact ⟨j + 1, l8, r8, es8, by omega, by go_num, D1.out⟩
        case measure => simp [intOf]; omega)
    · have hjx : j = n := by omega
      subst hjx
      clear R6
      go_wp2_with fail
      go_ret
      exact ⟨rfl, l', r', es', S6.out⟩
end Go.Proofs.Ytbgfpmnicpmieaa

/- Any act on both logs, which say the same. -/
namespace Go.Proofs.Ytbgfpmnicpmieaa
open Go Go.RowKit
set_option linter.unusedVariables false
set_option linter.unusedSimpArgs false
set_option maxRecDepth 100000
set_option maxHeartbeats 1000000
theorem beq_int (i : Int) : (i == i) = true := by simp
theorem beq_bool (i : Bool) : (i == i) = true := by simp
theorem like_self (es : List Ent) : likeE es es = true := likeE_self es
theorem actA_any (w0 w : World) (b rb : Nat) (l r : Lg) (es : List Ent) (cnt : Nat) (x : Ac) (h : AS w0 w b rb l r es cnt) (hx : AK w0 x) (hy : Kn w0 w0.heap.size w x.es) (hn : cnt + x.len ≤ 300) :
    Calls Try.prog 25 #[.pointer (some ⟨b, 0, none⟩), .pointer (some ⟨rb, 0, none⟩), .agg #[.int .i64 x.k, .int .i64 x.n, .int .i64 x.m, .slice x.a x.len x.cap]] w (ActA w0 b rb (cnt + x.len)) := by
  obtain ⟨k, N, M, a, n, c, ys⟩ := x
  have q1 := hx.n1; have q2 := hx.n2; have q3 := hx.m1; have q4 := hx.m2
  have hyl : ys.length = n := hx.er.1
  have hf := hx.fit
  have hn1 := h.n1
  have hn2 := h.n2
  have hi := h.inv
  have hi2 := h.inv2
  have hk := h.kn
  have hz := kn_nil h.kn
  dsimp only at *
  by_cases h0 : k = 0
  · subst h0
    exact act0 w0 w b rb l r es cnt N M a n c ys h ⟨hx.er, hy⟩ hn hf.2
  by_cases h1 : k = 1
  · subst h1
    refine (act1 w0.heap.size b l es rb r es N M a n c ys w h.two hi hi2 w0 ⟨hx.er, hy⟩ (by omega) hf.2).mono ?_
    rintro e w' ⟨rfl, l1, e1, l2, e2, c1, c2, ht, hb⟩
    obtain ⟨hR, rfl, hs⟩ := h.sim.mtd c1 c2
    exact ⟨ret_bool (by rw [hR, beq_int, beq_bool]; rfl), _, _, _, h.step ht hb (mtd_stp hi c1 (by omega) (by omega) hyl) hs hy rfl⟩
  by_cases h2 : k = 2
  · subst h2
    refine (act2 w0.heap.size b l es rb r es N M a n c w h.two hi hi2).mono ?_
    rintro e w' ⟨rfl, ht, hb⟩
    obtain ⟨hR, hs⟩ := h.sim.com N
    exact ⟨ret_bool (by rw [hR, beq_bool]), _, _, _, (h.step ht hb (stp_com hi N) hs hz rfl).more (by omega)⟩
  by_cases h3 : k = 3
  · subst h3
    refine (act3 w0.heap.size b l es rb r es N M a n c w h.two hi hi2).mono ?_
    rintro e w' ⟨rfl, ht, hb⟩
    exact ⟨rfl, _, _, _, (h.step ht hb (stp_sur hi N) (h.sim.sur N) hz rfl).more (by omega)⟩
  by_cases h4 : k = 4
  · subst h4
    refine (act4 w0.heap.size b l es rb r es N M a n c w h.two hi hi2 w0 hk hk q1 q2 q3 q4).mono ?_
    rintro e w' ⟨rfl, ht, hb⟩
    obtain ⟨hR, hs⟩ := h.sim.app es N
    exact ⟨ret_bool (by rw [hR, like_self]), _, _, _, (h.step ht hb (stp_app hi N) hs hz rfl).more (by omega)⟩
  by_cases h5 : k = 5
  · subst h5
    refine (act5 w0.heap.size b l es rb r es N M a n c w h.two hi hi2).mono ?_
    rintro e w' ⟨rfl, l1, e1, l2, e2, c1, c2, ht, hb⟩
    obtain ⟨hR, rfl, hs⟩ := h.sim.cpt c1 c2
    exact ⟨ret_bool (by rw [hR, beq_bool]), _, _, _, (h.step ht hb (stp_cpt hi c1) hs hz rfl).more (by omega)⟩
  by_cases h6 : k = 6
  · subst h6
    refine (act6 w0.heap.size b l es rb r es N M a n c w h.two hi hi2).mono ?_
    rintro e w' ⟨rfl, l1, e1, l2, e2, c1, c2, ht, hb⟩
    have hs := (h.sim.rsd c1 c2).1
    subst hs
    exact ⟨rfl, _, _, _, (h.rest c1 c2 ht hb).more (by omega)⟩
  by_cases h7 : k = 7
  · subst h7
    refine (act7 w0.heap.size b l es rb r es N M a n c w h.two hi hi2 w0 hk hk q1 q2 q3 q4).mono ?_
    rintro e w' ⟨rfl, ht, hb⟩
    have hR : termF r (pts es) N = termF l (pts es) N ∧ slcE r es N M = slcE l es N M := by
      obtain ⟨a', c', rfl⟩ := h.sim
      exact ⟨rfl, rfl⟩
    exact ⟨ret_bool (by rw [hR.1, hR.2, like_self, beq_int, beq_int]; rfl), _, _, _, (h.step ht hb (Stp.refl hi [] 0) h.sim hz rfl).more (by omega)⟩
  by_cases h8 : k = 8
  · subst h8
    refine (act8 w0.heap.size b l es rb r es N M a n c w h.two hi hi2 w0 hk hk q1 q2 q3 q4).mono ?_
    rintro e w' ⟨rfl, ht, hb⟩
    have hR : nwrB r es N M = nwrB l es N M ∧ hint0 r N = hint0 l N ∧ r.ix = l.ix := by
      obtain ⟨a', c', rfl⟩ := h.sim
      exact ⟨rfl, rfl, rfl⟩
    exact ⟨ret_bool (by rw [hR.1, hR.2.1, hR.2.2, beq_int, beq_bool]; rfl), _, _, _, (h.step ht hb (Stp.refl hi [] 0) h.sim hz rfl).more (by omega)⟩
  refine (actO w0.heap.size b l es rb r es k N M a n c w h.two hi hi2 (by simpa using h0) (by simpa using h1) (by simpa using h2) (by simpa using h3) (by simpa using h4) (by simpa using h5) (by simpa using h6) (by simpa using h7) (by simpa using h8)).mono ?_
  rintro e w' ⟨rfl, ht, hb⟩
  exact ⟨rfl, _, _, _, (h.step ht hb (Stp.refl hi [] 0) h.sim hz rfl).more (by omega)⟩
end Go.Proofs.Ytbgfpmnicpmieaa

/- Two logs that say the same are told alike. -/
namespace Go.Proofs.Ytbgfpmnicpmieaa
open Go Go.RowKit Go.Shelf Go.Sort
set_option linter.unusedVariables false
set_option linter.unusedSimpArgs false
set_option maxRecDepth 100000
set_option maxHeartbeats 2000000
theorem cnfN_mem (es : List Ent) : ∀ j, j ≤ es.length → cnfN es j = default ∨ cnfN es j ∈ es
  | 0, _ => .inl rfl
  | j + 1, h => by
    rw [cnfN]
    split
    · exact .inr (getD_mem (by omega))
    · exact cnfN_mem es j (by omega)
theorem cnfE_rd {w : World} {es : List Ent} (hk : EKs w es) (hz : ∀ e, e ∈ es → e.vn ≤ 1000 ∧ e.ln ≤ 1000) : Rd w (cnfE es).va (cnfE es).vn (cnfE es).V ∧ Rd w (cnfE es).la (cnfE es).ln (cnfE es).L ∧ (cnfE es).vn ≤ 1000 ∧ (cnfE es).ln ≤ 1000 := by
  rcases cnfN_mem es es.length (Nat.le_refl _) with h | h
  · rw [cnfE, h]
    exact ⟨⟨rfl, .inl rfl⟩, ⟨rfl, .inl rfl⟩, Nat.zero_le _, Nat.zero_le _⟩
  · have g := hk _ h
    have z := hz _ h
    exact ⟨g.v, g.l, z.1, z.2⟩
theorem mem_uns {l : Lg} {es : List Ent} : ∀ x, x ∈ unsE l es → x ∈ es := fun x hx => List.mem_of_mem_drop hx
theorem uns_len (l : Lg) (es : List Ent) : (unsE l es).length ≤ es.length := by unfold unsE; rw [List.length_drop]; omega
theorem held_9 {A B C D E F G H I : Prop} {m : Nat} {w W : World} (h : A ∧ B ∧ C ∧ D ∧ E ∧ F ∧ G ∧ H ∧ I ∧ Below m w W) : Below m w W := h.2.2.2.2.2.2.2.2.2
theorem alike_any (w0 w : World) (b rb : Nat) (l r : Lg) (es : List Ent) (cnt : Nat) (h : AS w0 w b rb l r es cnt) :
    Calls Try.prog 27 #[.pointer (some ⟨b, 0, none⟩), .pointer (some ⟨rb, 0, none⟩)] w fun e w' => e = .returned (.bool true) ∧ AS w0 w' b rb l r es cnt := by
  obtain ⟨ra, rc, rfl⟩ := h.sim
  have S0 := Lib.hid h
  have HI := Lib.hid h.inv
  have HI2 := Lib.hid h.inv2
  have HIS := Lib.hid h.inv.ok.is
  have HSM := Lib.hid h.inv.ok.small
  obtain ⟨p1, p2, hp⟩ : ∃ p1 p2, lastP l (pts es) = (p1, p2) := ⟨_, _, rfl⟩
  have HP := Lib.hid hp
  have HP2 : Hid (lastP { l with a := ra, c := rc } (pts es) = (p1, p2)) := hp
  have HLT : Hid (∀ e, e ∈ es → e.vn ≤ 1000 ∧ e.ln ≤ 1000) := h.kn.lt
  clear h hp
  obtain ⟨ix, tm, la0, n, lc0, com, app, sur, is⟩ := l
  go_enter Try.func27, Try.ntmps27
  go_wp2_with fail
  refine (base_any b _ _ S0.out.two.lg.lb HIS.out).mono ?_
  rintro e w1 ⟨rfl, hb⟩
  have S1 := Lib.hid (S0.out.below (Nat.le_refl _) hb)
  clear hb S0
  go_wp2_with fail
  refine (last_any b _ (pts es) _ S1.out.two.lg.lb HIS.out S1.out.two.lg.ep HSM.out).mono ?_
  rintro e w2 ⟨rfl, hb⟩
  rw [HP.out]
  have S2 := Lib.hid (S1.out.below (Nat.le_refl _) hb)
  clear hb S1
  go_wp2_with fail
  refine (reflast_any w0.heap.size rb _ es _ S2.out.two.rg HSM.out).mono ?_
  rintro e w3 ⟨rfl, hb⟩
  rw [HP2.out]
  have S3 := Lib.hid (S2.out.below (Nat.le_refl _) hb)
  clear hb S2
  go_wp2_with fail
  refine (conf_any w0.heap.size b _ es _ S3.out.two.lg HIS.out HSM.out S3.out.kn.eks HLT.out).mono ?_
  rintro e w4 ⟨va, vc, la, lc, rfl, hr1, hr2, hb⟩
  have S4 := Lib.hid (S3.out.below (Nat.le_refl _) hb)
  have LA : Hid (Below w4.heap.size w4 (w4.alloc (.cells #[.slice va (cnfE es).vn vc, .slice la (cnfE es).ln lc] 35))) := (Below.refl _ w4).alloc (Nat.le_refl _) _
  have R1 := Lib.hid (hr1.keep (Nat.le_refl _) LA.out)
  have R2 := Lib.hid (hr2.keep (Nat.le_refl _) LA.out)
  have S5 := Lib.hid (S4.out.below (Nat.le_refl _) LA.out)
  have HC1 : Hid ((w4.alloc (.cells #[.slice va (cnfE es).vn vc, .slice la (cnfE es).ln lc] 35)).cell? ⟨w4.heap.size, 0, none⟩ = some (.slice va (cnfE es).vn vc) ∧ (w4.alloc (.cells #[.slice va (cnfE es).vn vc, .slice la (cnfE es).ln lc] 35)).cell? ⟨w4.heap.size, 1, none⟩ = some (.slice la (cnfE es).ln lc)) := by show _ ∧ _; constructor <;> simp
  clear hb S3 hr1 hr2 LA S4
  generalize hx : cnfE es = x at *
  have HX := Lib.hid hx
  clear hx
  go_wp2_with fail
  generalize w4.alloc (.cells #[.slice va x.vn vc, .slice la x.ln lc] 35) = w5 at *
  refine (refconf_any w0.heap.size rb _ es _ S5.out.two.rg HSM.out).mono ?_
  rintro e w6 ⟨rfl, hb⟩
  rw [HX.out]
  have S6 := Lib.hid (S5.out.below (Nat.le_refl _) hb)
  have HC6 : Hid (w6.cell? ⟨w4.heap.size, 0, none⟩ = some (.slice va x.vn vc) ∧ w6.cell? ⟨w4.heap.size, 1, none⟩ = some (.slice la x.ln lc)) := ⟨kept_low hb (Nat.le_refl _) HC1.out.1, kept_low hb (Nat.le_refl _) HC1.out.2⟩
  have R3 := Lib.hid (R1.out.keep (Nat.le_refl _) hb)
  have R4 := Lib.hid (R2.out.keep (Nat.le_refl _) hb)
  have LA : Hid (Below w6.heap.size w6 (w6.alloc (.cells #[.slice x.va x.vn x.vc, .slice x.la x.ln x.lc] 35))) := (Below.refl _ w6).alloc (Nat.le_refl _) _
  have R5 := Lib.hid (R3.out.keep (Nat.le_refl _) LA.out)
  have R6 := Lib.hid (R4.out.keep (Nat.le_refl _) LA.out)
  have S7 := Lib.hid (S6.out.below (Nat.le_refl _) LA.out)
  have HC7 : Hid ((w6.alloc (.cells #[.slice x.va x.vn x.vc, .slice x.la x.ln x.lc] 35)).cell? ⟨w4.heap.size, 0, none⟩ = some (.slice va x.vn vc) ∧ (w6.alloc (.cells #[.slice x.va x.vn x.vc, .slice x.la x.ln x.lc] 35)).cell? ⟨w4.heap.size, 1, none⟩ = some (.slice la x.ln lc) ∧ (w6.alloc (.cells #[.slice x.va x.vn x.vc, .slice x.la x.ln x.lc] 35)).cell? ⟨w6.heap.size, 0, none⟩ = some (.slice x.va x.vn x.vc) ∧ (w6.alloc (.cells #[.slice x.va x.vn x.vc, .slice x.la x.ln x.lc] 35)).cell? ⟨w6.heap.size, 1, none⟩ = some (.slice x.la x.ln x.lc)) := ⟨kept_low LA.out (Nat.le_refl _) HC6.out.1, kept_low LA.out (Nat.le_refl _) HC6.out.2, by simp, by simp⟩
  have z0 : (w6.alloc (.cells #[.slice x.va x.vn x.vc, .slice x.la x.ln x.lc] 35)).cell? ⟨rb, 0, none⟩ = some (.int .i64 ix) := S7.out.two.rg.lb.c0
  have z1 : (w6.alloc (.cells #[.slice x.va x.vn x.vc, .slice x.la x.ln x.lc] 35)).cell? ⟨rb, 1, none⟩ = some (.int .i64 tm) := S7.out.two.rg.lb.c1
  have z3 : (w6.alloc (.cells #[.slice x.va x.vn x.vc, .slice x.la x.ln x.lc] 35)).cell? ⟨rb, 3, none⟩ = some (.int .i64 com) := S7.out.two.rg.lb.c3
  have z4 : (w6.alloc (.cells #[.slice x.va x.vn x.vc, .slice x.la x.ln x.lc] 35)).cell? ⟨rb, 4, none⟩ = some (.int .i64 app) := S7.out.two.rg.lb.c4
  have z5 : (w6.alloc (.cells #[.slice x.va x.vn x.vc, .slice x.la x.ln x.lc] 35)).cell? ⟨rb, 5, none⟩ = some (.int .i64 sur) := S7.out.two.rg.lb.c5
  clear hb S5 S6 R1 R2 R3 R4 LA HC1 HC6
  go_upto_region 6 with fail
  generalize w6.alloc (.cells #[.slice x.va x.vn x.vc, .slice x.la x.ln x.lc] 35) = w7 at *
  have hS : Hid (∀ W, Below w7.heap.size w7 W → W.cell? ⟨rb, 0, none⟩ = some (.int .i64 ix) ∧ W.cell? ⟨rb, 1, none⟩ = some (.int .i64 tm) ∧ W.cell? ⟨rb, 3, none⟩ = some (.int .i64 com) ∧ W.cell? ⟨rb, 4, none⟩ = some (.int .i64 app) ∧ W.cell? ⟨rb, 5, none⟩ = some (.int .i64 sur) ∧ W.cell? ⟨w4.heap.size, 0, none⟩ = some (.slice va x.vn vc) ∧ W.cell? ⟨w4.heap.size, 1, none⟩ = some (.slice la x.ln lc) ∧ W.cell? ⟨w6.heap.size, 0, none⟩ = some (.slice x.va x.vn x.vc) ∧ W.cell? ⟨w6.heap.size, 1, none⟩ = some (.slice x.la x.ln x.lc) ∧ Below w7.heap.size w7 W) := by
    show ∀ W, _
    intro W h
    exact ⟨kept_low h (Nat.le_refl _) z0, kept_low h (Nat.le_refl _) z1, kept_low h (Nat.le_refl _) z3, kept_low h (Nat.le_refl _) z4, kept_low h (Nat.le_refl _) z5, kept_low h (Nat.le_refl _) HC7.out.1, kept_low h (Nat.le_refl _) HC7.out.2.1, kept_low h (Nat.le_refl _) HC7.out.2.2.1, kept_low h (Nat.le_refl _) HC7.out.2.2.2, h⟩
  have KK19 : Hid (∀ W, Below w7.heap.size w7 W → Calls Try.prog 19 #[.pointer (some ⟨b, 0, none⟩)] W fun e w' => e = .returned (.int .i64 com) ∧ W = w') := by
    show ∀ W, _
    intro W h
    exact committed_any b _ _ (S7.out.below (Nat.le_refl _) h).two.lg.lb HIS.out
  have KK22 : Hid (∀ W, Below w7.heap.size w7 W → Calls Try.prog 22 #[.pointer (some ⟨b, 0, none⟩)] W fun e w' => e = .returned (.int .i64 app) ∧ W = w') := by
    show ∀ W, _
    intro W h
    exact applied_any b _ _ (S7.out.below (Nat.le_refl _) h).two.lg.lb HIS.out
  have KK33 : Hid (∀ W, Below w7.heap.size w7 W → Calls Try.prog 33 #[.pointer (some ⟨b, 0, none⟩)] W fun e w' => e = .returned (.int .i64 sur) ∧ W = w') := by
    show ∀ W, _
    intro W h
    exact stable_any b _ _ (S7.out.below (Nat.le_refl _) h).two.lg.lb HIS.out
  have KK34 : Hid (∀ W, Below w7.heap.size w7 W → Calls Try.prog 34 #[.pointer (some ⟨b, 0, none⟩)] W (Fresh W (unsE ⟨ix, tm, la0, n, lc0, com, app, sur, is⟩ es))) := by
    show ∀ W, _
    intro W h
    exact unsureE_any w0.heap.size b _ es _ (S7.out.below (Nat.le_refl _) h).two.lg HI.out
  have KK58 : Hid (∀ W, Below w7.heap.size w7 W → Calls Try.prog 58 #[.pointer (some ⟨rb, 0, none⟩)] W (Fresh W (unsE ⟨ix, tm, la0, n, lc0, com, app, sur, is⟩ es))) := by
    show ∀ W, _
    intro W h
    exact refunsureE_any w0.heap.size rb ⟨ix, tm, ra, n, rc, com, app, sur, is⟩ es _ (S7.out.below (Nat.le_refl _) h).two.rg HI2.out
  have KK48 : Hid (∀ (w8 w9 : World) (B1 : Nat) (a1 : Option Addr) (q1 c1 : Nat) (a2 : Option Addr) (q2 c2 : Nat), Below w7.heap.size w7 w9 → w8.ownsRow B1 37 13 (.slice a1 q1 c1) q1 (flatE (unsE ⟨ix, tm, la0, n, lc0, com, app, sur, is⟩ es)) → Below w8.heap.size w8 w9 → w9.ownsRow w8.heap.size 37 13 (.slice a2 q2 c2) q2 (flatE (unsE ⟨ix, tm, la0, n, lc0, com, app, sur, is⟩ es)) → Calls Try.prog 48 #[.slice a1 q1 c1, .slice a2 q2 c2] w9 fun e w' => e = .returned (.bool true) ∧ Below w9.heap.size w9 w') := by
    show ∀ (w8 w9 : World), _
    intro w8 w9 B1 a1 q1 c1 a2 q2 c2 h ho1 hb2 ho2
    have h1 := own_len ho1
    have h2 := uns_len ⟨ix, tm, la0, n, lc0, com, app, sur, is⟩ es
    have h3 := S7.out.two.lg.len
    have h4 := HSM.out
    dsimp only at h3 h4
    have S9 := S7.out.below (Nat.le_refl _) h
    refine (like_two ho1 (fun _ => trivial) (Kept.of (S := fun _ => False) hb2 (Nat.le_refl _)) (fun j hj => False.elim hj) ho2 (S9.kn.sub mem_uns) (S9.kn.sub mem_uns) (by omega)).mono ?_
    rintro e w' ⟨rfl, hb⟩
    exact ⟨by rw [like_self], hb⟩
  have KK42 : Hid (∀ W, Below w7.heap.size w7 W → Calls Try.prog 42 #[.agg #[.slice va x.vn vc, .slice la x.ln lc], .agg #[.slice x.va x.vn x.vc, .slice x.la x.ln x.lc]] W fun e w' => e = .returned (.bool true) ∧ Below W.heap.size W w') := by
    show ∀ W, _
    intro W h
    have S9 := S7.out.below (Nat.le_refl _) h
    have RX : Rd W x.va x.vn x.V ∧ Rd W x.la x.ln x.L ∧ x.vn ≤ 1000 ∧ x.ln ≤ 1000 := by
      have := cnfE_rd S9.kn.eks HLT.out
      rw [HX.out] at this
      exact this
    refine (same_any va x.vn vc x.V la x.ln lc x.L x.va x.vn x.vc x.V x.la x.ln x.lc x.L _ (R5.out.keep (Nat.le_refl _) h) (R6.out.keep (Nat.le_refl _) h) RX.1 RX.2.1 RX.2.2.1 RX.2.2.2 RX.2.2.1 RX.2.2.2).mono ?_
    rintro e w' ⟨rfl, hb⟩
    exact ⟨by rw [decide_eq_true rfl, decide_eq_true rfl]; rfl, hb⟩
  clear z0 z1 z3 z4 z5
  simp only [List.append_eq, List.cons_append, List.nil_append]
  go_region_held3 (fun W => W.cell? ⟨rb, 0, none⟩ = some (.int .i64 ix) ∧ W.cell? ⟨rb, 1, none⟩ = some (.int .i64 tm) ∧ W.cell? ⟨rb, 3, none⟩ = some (.int .i64 com) ∧ W.cell? ⟨rb, 4, none⟩ = some (.int .i64 app) ∧ W.cell? ⟨rb, 5, none⟩ = some (.int .i64 sur) ∧ W.cell? ⟨w4.heap.size, 0, none⟩ = some (.slice va x.vn vc) ∧ W.cell? ⟨w4.heap.size, 1, none⟩ = some (.slice la x.ln lc) ∧ W.cell? ⟨w6.heap.size, 0, none⟩ = some (.slice x.va x.vn x.vc) ∧ W.cell? ⟨w6.heap.size, 1, none⟩ = some (.slice x.la x.ln x.lc) ∧ Below w7.heap.size w7 W)
    (first | exact hS.out _ (Below.refl _ _) | exact hS.out _ (Below.refl _ _).drew | exact hS.out _ hB4 | exact hS.out _ hB3 | exact hS.out _ hB2 | exact hS.out _ hB1 | assumption | exact hS.out _ (held_9 (by assumption)))
    (first
      | (go_at_call 19; (with_reducible refine (KK19.out _ (held_9 (by assumption))).mono ?_); rintro e w8 ⟨rfl, hw⟩; subst hw)
      | (go_at_call 22; (with_reducible refine (KK22.out _ (held_9 (by assumption))).mono ?_); rintro e w8 ⟨rfl, hw⟩; subst hw)
      | (go_at_call 33; (with_reducible refine (KK33.out _ (held_9 (by assumption))).mono ?_); rintro e w8 ⟨rfl, hw⟩; subst hw)
      | (go_at_call 34; (with_reducible refine (KK34.out _ (held_9 (by assumption))).mono ?_); rintro e w8 ⟨a1, q1, c1, rfl, ho1, hb1⟩; have hB1 : Below w7.heap.size w7 w8 := (held_9 (by assumption) : Below w7.heap.size w7 _).trans (hb1.mono (held_9 (by assumption) : Below w7.heap.size w7 _).size))
      | (go_at_call 58; (with_reducible refine (KK58.out _ hB1).mono ?_); rintro e w9 ⟨a2, q2, c2, rfl, ho2, hb2⟩; have hB2 : Below w7.heap.size w7 w9 := hB1.trans (hb2.mono hB1.size))
      | (go_at_call 48; (with_reducible refine (KK48.out _ _ _ _ _ _ _ _ _ hB2 ho1 hb2 ho2).mono ?_); rintro e w10 ⟨rfl, hb3⟩; have hB3 : Below w7.heap.size w7 w10 := hB2.trans (hb3.mono hB2.size))
      | (go_at_call 42; (with_reducible refine (KK42.out _ hB3).mono ?_); rintro e w11 ⟨rfl, hb4⟩; have hB4 : Below w7.heap.size w7 w11 := hB3.trans (hb4.mono hB3.size)))
  all_goals (
    have HZ := Lib.hid hB4
    clear hB1 hB2 hB3 hB4 hb1 hb2 hb3 hb4 ho1 ho2
    clear KK19 KK22 KK33 KK34 KK58 KK48 KK42 hS
    rename_i hHeld
    clear hHeld
    go_wp2_with fail
    go_ret
    exact ⟨rfl, S7.out.below (Nat.le_refl _) HZ.out⟩)
end Go.Proofs.Ytbgfpmnicpmieaa

/- The beginning of the law on acts: two new logs that say the same; how many entries acts have. -/
namespace Go.Proofs.Ytbgfpmnicpmieaa
open Go Go.RowKit Go.Shelf Go.Sort
set_option linter.unusedVariables false
set_option linter.unusedSimpArgs false
set_option maxRecDepth 100000
set_option maxHeartbeats 1000000
def sumA (xs : List Ac) : Nat → Nat
  | 0 => 0
  | k + 1 => sumA xs k + (xs.getD k default).len
theorem sumA_mono (xs : List Ac) {j k : Nat} (h : j ≤ k) : sumA xs j ≤ sumA xs k := by
  induction k with
  | zero => have : j = 0 := by omega
            subst this; exact Nat.le_refl _
  | succ k ih =>
    by_cases e : j = k + 1
    · subst e; exact Nat.le_refl _
    · have := ih (by omega)
      rw [sumA]; omega
def LightA (xs : List Ac) (k : Nat) : Prop := ∀ j, j < k → (xs.getD j default).es.length ≤ 200 ∧ Light (xs.getD j default).es (xs.getD j default).es.length
theorem LightA.more {xs : List Ac} {k : Nat} (h : LightA xs k) (hx : (xs.getD k default).es.length ≤ 200 ∧ Light (xs.getD k default).es (xs.getD k default).es.length) : LightA xs (k + 1) := fun j hj => by
  by_cases e : j = k
  · subst e; exact hx
  · exact h j (by omega)
def NewQR (w0 w' : World) (ix tm : Int) (n : Nat) (es : List Ent) (p : Option Addr) : Prop :=
  (newB ix tm es = false ∧ p = none) ∨ (newB ix tm es = true ∧ ∃ b a c, p = some ⟨b, 0, none⟩ ∧ RG w' w0.heap.size b ⟨ix, tm, a, n, c, ix, ix, ix + n, true⟩ es)
theorem refnew_from (w0 : World) (ix tm : Int) (a : Option Addr) (n c : Nat) (es : List Ent) (W : World) (h : ER w0 a n es) (hk : EKs w0 es) (hn : n * 168 ≤ 140737488355328) (hW : Below w0.heap.size w0 W) :
    Calls Try.prog 23 #[.int .i64 ix, .int .i64 tm, .slice a n c] W fun e w' => ∃ p, e = .returned (.pointer p) ∧ NewQR W w' ix tm n es p ∧ Below W.heap.size W w' ∧ Below w0.heap.size w0 w' ∧ w0.heap.size ≤ W.heap.size := by
  refine (refnew_any ix tm a n c es W (h.keep (Nat.le_refl _) hW) (hk.keep (Nat.le_refl _) hW) hn).mono ?_
  rintro e w' (⟨h1, rfl, hb⟩ | ⟨h1, b, a', c', rfl, hR, hb⟩)
  · exact ⟨_, rfl, .inl ⟨h1, rfl⟩, hb, hW.trans (hb.mono hW.size), hW.size⟩
  · exact ⟨_, rfl, .inr ⟨h1, b, a', c', rfl, hR⟩, hb, hW.trans (hb.mono hW.size), hW.size⟩
theorem as_new {w0 w1 w2 : World} {m b rb : Nat} {ix tm : Int} {a a' : Option Addr} {n c c' : Nat} {es : List Ent} (hg : LG w1 m b ⟨ix, tm, a, n, c, ix, ix, ix + n, true⟩ es) (hm : w0.heap.size ≤ m) (hr : RG w2 w1.heap.size rb ⟨ix, tm, a', n, c', ix, ix, ix + n, true⟩ es) (hb12 : Below w1.heap.size w1 w2)
    (hn : newB ix tm es = true) (hs : es.length ≤ 200) (hk : EKs w0 es) (hl : Light es es.length) (hb : Below w0.heap.size w0 w2) : AS w0 w2 b rb ⟨ix, tm, a, n, c, ix, ix, ix + n, true⟩ ⟨ix, tm, a', n, c', ix, ix, ix + n, true⟩ es 0 := by
  obtain ⟨p1, p2, p3, p4⟩ := new_parts hn
  have hlen := hg.len
  dsimp only at hlen
  have hbs := hg.lb.lt
  have hrm := hr.mb
  have hg0 : LG w1 w0.heap.size b ⟨ix, tm, a, n, c, ix, ix, ix + n, true⟩ es := ⟨hg.lb, own_mono hg.own hm, Nat.le_trans hm hg.mb⟩
  have hmb := hg0.mb
  have hr0 : RG w2 w0.heap.size rb ⟨ix, tm, a', n, c', ix, ix, ix + n, true⟩ es := ⟨hr.lb, own_mono hr.own (by omega), by omega⟩
  refine ⟨⟨hg0.below (Nat.le_refl _) hb12, hr0, by omega, fun j hj => ⟨?_, fun e => ?_⟩, fun j hj => ?_⟩, ⟨ok_of p4 p1 (by omega) hlen (by omega), p4, ?_, ?_, ?_, ?_, ?_, ?_⟩, ⟨a', c', rfl⟩, kn_of hk hl hb, by dsimp only; omega, by dsimp only; omega⟩
  · have := (hg.lt hj).2; omega
  · have h1 := (hg.lt hj).2
    have h2 := (hr.lt e).1
    omega
  · have h2 := (hr.lt hj).1
    omega
  all_goals (dsimp only; omega)
/-- Both logs are made, or none. -/
def XB (w0 w : World) (es : List Ent) (p q : Option Addr) : Prop :=
  Below w0.heap.size w0 w ∧ ((p = none ∧ q = none) ∨ ∃ b rb l r, p = some ⟨b, 0, none⟩ ∧ q = some ⟨rb, 0, none⟩ ∧ AS w0 w b rb l r es 0)
theorem xb_of {w0 wr W w1 w2 : World} {ix tm : Int} {n : Nat} {es : List Ent} {p q : Option Addr} (h1 : NewQ W w1 ix tm n es p) (hs1 : wr.heap.size ≤ W.heap.size) (h2 : NewQR w1 w2 ix tm n es q) (hb2 : Below w1.heap.size w1 w2) (hB2 : Below wr.heap.size wr w2) (hw : Below w0.heap.size w0 wr)
    (hs : es.length ≤ 200) (hk : EKs w0 es) (hl : Light es es.length) : XB w0 w2 es p q := by
  have hb := hw.trans (hB2.mono hw.size)
  refine ⟨hb, ?_⟩
  rcases h1 with ⟨h1, rfl⟩ | ⟨h1, b, a, c, rfl, hg⟩
  · rcases h2 with ⟨_, rfl⟩ | ⟨h2, _⟩
    · exact .inl ⟨rfl, rfl⟩
    · rw [h1] at h2; cases h2
  · rcases h2 with ⟨h2, _⟩ | ⟨_, rb, a', c', rfl, hr⟩
    · rw [h1] at h2; cases h2
    · exact .inr ⟨b, rb, _, _, rfl, rfl, as_new hg (Nat.le_trans hw.size hs1) hr hb2 h1 hs hk hl hb⟩
end Go.Proofs.Ytbgfpmnicpmieaa
