/- What is done to both logs: Apply, Term and Slice, Newer and Hint. -/
import Derived.Test.YtbgfpmnicpmieaaEAct
namespace Go.Proofs.Ytbgfpmnicpmieaa
open Go Go.RowKit Go.Shelf Go.Sort
set_option linter.unusedVariables false
set_option linter.unusedSimpArgs false
set_option maxRecDepth 100000
set_option maxHeartbeats 1000000
/-- What is known of entries: their members' lists lie ahead of the logs, and are short. -/
structure Kn (w0 : World) (m : Nat) (w : World) (es : List Ent) : Prop where
  ek : EKs w0 es
  lt : ∀ x, x ∈ es → x.vn ≤ 1000 ∧ x.ln ≤ 1000
  hm : w0.heap.size ≤ m
  hb : Below m w0 w
theorem Kn.below {w0 m w w' es} (h : Kn w0 m w es) (hb : Below m w w') : Kn w0 m w' es := ⟨h.ek, h.lt, h.hm, h.hb.trans hb⟩
theorem Kn.sub {w0 m w es fs} (h : Kn w0 m w es) (hs : ∀ x, x ∈ fs → x ∈ es) : Kn w0 m w fs := ⟨fun x hx => h.ek x (hs x hx), fun x hx => h.lt x (hs x hx), h.hm, h.hb⟩
theorem Kn.eks {w0 m w es} (h : Kn w0 m w es) : EKs w es := fun x hx => (h.ek x hx).keep h.hm h.hb
theorem Kn.light {w0 m w es} (h : Kn w0 m w es) : LightE es := fun j hj => h.lt _ (getD_mem hj)
theorem mem_app {l : Lg} {es : List Ent} {i : Int} : ∀ x, x ∈ appE l es i → x ∈ es := by
  intro x hx
  unfold appE at hx
  split at hx
  · cases hx
  · exact List.mem_of_mem_drop (List.mem_of_mem_take hx)
theorem mem_slc {l : Lg} {es : List Ent} {i j : Int} : ∀ x, x ∈ slcE l es i j → x ∈ es := by
  intro x hx
  unfold slcE at hx
  split at hx
  · cases hx
  · split at hx
    · cases hx
    · exact List.mem_of_mem_drop (List.mem_of_mem_take hx)
theorem app_len (l : Lg) (es : List Ent) (i : Int) : (appE l es i).length ≤ es.length := by
  unfold appE
  split
  · simp
  · rw [List.length_take, List.length_drop]; omega
theorem slc_len (l : Lg) (es : List Ent) (i j : Int) : (slcE l es i j).length ≤ es.length := by
  unfold slcE
  split
  · simp
  · split
    · simp
    · rw [List.length_take, List.length_drop]; omega
theorem own_len {w : World} {base n : Nat} {v : Value} {es : List Ent} (h : w.ownsRow base 37 13 v n (flatE es)) : es.length = n := by
  have := h.1; rw [flatE_len] at this; omega
theorem kept_low {w w' : World} {k : Nat} (h : Below k w w') (hk : w.heap.size ≤ k) {p : Addr} {v : Value} (hv : w.cell? p = some v) : w'.cell? p = some v := (h.cell (Nat.lt_of_lt_of_le (cell_block_lt hv) hk)).trans hv
/-- Two lists that calls made, one behind the other: are they alike. -/
theorem like_two {w1 w2 : World} {B1 B2 : Nat} {a1 n1 c1 a2 n2 c2} {fs1 fs2 : List Ent} {w0 : World} {m : Nat} (ho1 : w1.ownsRow B1 37 13 (.slice a1 n1 c1) n1 (flatE fs1)) (hk : ∀ S : Nat → Prop, True) {S : Nat → Prop} (hk2 : Kept S w1 w2) (hS : ∀ j, S j → j < B1) (ho2 : w2.ownsRow B2 37 13 (.slice a2 n2 c2) n2 (flatE fs2)) (k1 : Kn w0 m w2 fs1) (k2 : Kn w0 m w2 fs2) (hn : n1 ≤ 281474976710656) :
    Calls Try.prog 48 #[.slice a1 n1 c1, .slice a2 n2 c2] w2 fun e w' => e = .returned (.bool (likeE fs1 fs2)) ∧ Below w2.heap.size w2 w' := by
  have ho1' := own_kept ho1 hk2 (fun j hj hs => by have := hS j hs; have := (ho1.lt j hj).1; omega)
  obtain ⟨_, _, e1, r1, _⟩ := own_er ho1'
  cases e1
  obtain ⟨_, _, e2, r2, _⟩ := own_er ho2
  cases e2
  exact like_any a1 n1 c1 fs1 a2 n2 c2 fs2 w2 r1 r2 k1.eks k2.eks k1.light k2.light hn
theorem act4 (m b : Nat) (l1 : Lg) (es1 : List Ent) (rb : Nat) (l2 : Lg) (es2 : List Ent) (N M : Int) (a : Option Addr) (n c : Nat) (w : World) (h : Two w m b l1 es1 rb l2 es2) (i1 : Inv l1 es1) (i2 : Inv l2 es2) (w0 : World) (K1 : Kn w0 m w es1) (K2 : Kn w0 m w es2) (hN1 : -9223372036854775808 ≤ N) (hN2 : N ≤ 9223372036854775807) (hM1 : -9223372036854775808 ≤ M) (hM2 : M ≤ 9223372036854775807) :
    Calls Try.prog 25 #[.pointer (some ⟨b, 0, none⟩), .pointer (some ⟨rb, 0, none⟩), .agg #[.int .i64 4, .int .i64 N, .int .i64 M, .slice a n c]] w fun e w' => e = .returned (.bool (likeE (appE l1 es1 N) (appE l2 es2 N))) ∧ Two w' m b (appL l1 N) es1 rb (appL l2 N) es2 ∧ Loc w w' b l1 (appL l1 N) rb l2 (appL l2 N) := by
  have L0 : Hid (Below w.heap.size w (w.alloc (.cells #[.int .i64 4, .int .i64 N, .int .i64 M, .slice a n c] 48))) := (Below.refl _ w).alloc (Nat.le_refl _) _
  have T0 := Lib.hid (h.below (Nat.le_refl _) L0.out)
  have I1 := Lib.hid i1
  have I2 := Lib.hid i2
  have hb1 := h.lg.lb.lt
  have hb2 := h.rg.lb.lt
  have HMS := Lib.hid h.ms
  clear h i1 i2
  have HK1 := Lib.hid K1
  have HK2 := Lib.hid K2
  clear K1 K2 hM1 hM2
  go_enter Try.func25, Try.ntmps25
  go_upto_region 19 with fail
  have LD : Hid (Below w.heap.size w ((w.alloc (.cells #[.int .i64 4, .int .i64 N, .int .i64 M, .slice a n c] 48)).drew)) := L0.out.drew
  have TD := Lib.hid (T0.out.below (Nat.le_refl _) (Below.refl _ _).drew)
  have hc0 : Hid ((w.alloc (.cells #[.int .i64 4, .int .i64 N, .int .i64 M, .slice a n c] 48)).cell? ⟨w.heap.size, 1, none⟩ = some (.int .i64 N)) := by show _ = _; simp
  have hcd : Hid (((w.alloc (.cells #[.int .i64 4, .int .i64 N, .int .i64 M, .slice a n c] 48)).drew).cell? ⟨w.heap.size, 1, none⟩ = some (.int .i64 N)) := by show _ = _; simp
  have hn1 : ¬ w.heap.size = b := by omega
  have hn2 : ¬ w.heap.size = rb := by omega
  have HLD : Hid (Below m w ((w.alloc (.cells #[.int .i64 4, .int .i64 N, .int .i64 M, .slice a n c] 48)).drew)) := LD.out.mono HMS.out
  have HBD : Hid (b < ((w.alloc (.cells #[.int .i64 4, .int .i64 N, .int .i64 M, .slice a n c] 48)).drew).heap.size ∧ rb < ((w.alloc (.cells #[.int .i64 4, .int .i64 N, .int .i64 M, .slice a n c] 48)).drew).heap.size) := ⟨TD.out.lg.lb.lt, TD.out.rg.lb.lt⟩
  go_region_held3 (fun W => W.cell? ⟨w.heap.size, 1, none⟩ = some (.int .i64 N))
    (first | exact hc0.out | exact hcd.out | exact kept_cell (p := ⟨w.heap.size, 1, none⟩) hk1 hcd.out hn1 | exact kept_cell (p := ⟨w.heap.size, 1, none⟩) hk2 (by assumption) hn2 | exact kept_low (p := ⟨w.heap.size, 1, none⟩) hb3 (Nat.le_refl _) (by assumption))
    (first
      | (go_at_call 18; (with_reducible refine (apply_any m b l1 es1 N _ TD.out.lg I1.out hN1 hN2).mono ?_); rintro e w1 ⟨⟨a1, q1, c1, rfl, ho1⟩, hg1, hk1⟩)
      | (go_at_call 49; refine (refapply_any m rb l2 es2 N _ (TD.out.rg1 (kept_b hk1)) I2.out hN1 hN2).mono ?_; rintro e w2 ⟨⟨a2, q2, c2, rfl, ho2⟩, hg2, hk2⟩; obtain ⟨d1, d2⟩ := TD.out.done (kept_b hk1) hg1 (fun j hj => .inl (by rw [gOf_app] at hj; exact hj)) (kept_b hk2) hg2 (fun j hj => .inl (by rw [gOf_app] at hj; exact hj)))
      | (go_at_call 48; refine (like_two ho1 (fun _ => trivial) hk2 (fun j hj => by rw [hj]; exact HBD.out.2) ho2 ((HK1.out.below (HLD.out.trans (TD.out.low d2))).sub mem_app) ((HK2.out.below (HLD.out.trans (TD.out.low d2))).sub mem_app) (by have h1 := own_len ho1; have h2 := I1.out.ok.small; have h3 := hg1.len; have h4 := app_len l1 es1 N; have h5 := TD.out.lg.len; omega)).mono ?_; rintro e w3 ⟨rfl, hb3⟩))
  all_goals (
    have D1 := Lib.hid (d1.below (Nat.le_refl _) hb3)
    have D2 := Lib.hid (((Loc.same LD.out (Nat.le_refl _) b l1 rb l2).trans d2).trans (Loc.same hb3 (Nat.le_refl _) b (appL l1 N) rb (appL l2 N)))
    clear d1 d2 hg1 hk1 hg2 hk2 hc0 hcd L0 T0 TD LD ho1 ho2 hb3
    rename_i hHeld
    clear hHeld
    go_wp2_with fail
    go_ret
    exact ⟨rfl, D1.out, D2.out⟩)
theorem act8 (m b : Nat) (l1 : Lg) (es1 : List Ent) (rb : Nat) (l2 : Lg) (es2 : List Ent) (N M : Int) (a : Option Addr) (n c : Nat) (w : World) (h : Two w m b l1 es1 rb l2 es2) (i1 : Inv l1 es1) (i2 : Inv l2 es2) (w0 : World) (K1 : Kn w0 m w es1) (K2 : Kn w0 m w es2) (hN1 : -9223372036854775808 ≤ N) (hN2 : N ≤ 9223372036854775807) (hM1 : -9223372036854775808 ≤ M) (hM2 : M ≤ 9223372036854775807) :
    Calls Try.prog 25 #[.pointer (some ⟨b, 0, none⟩), .pointer (some ⟨rb, 0, none⟩), .agg #[.int .i64 8, .int .i64 N, .int .i64 M, .slice a n c]] w fun e w' => e = .returned (.bool ((nwrB l1 es1 N M == nwrB l2 es2 N M) && (l1.ix + (hintN (pts es1) M (hint0 l1 N) : Nat) == l2.ix + (hintN (pts es2) M (hint0 l2 N) : Nat)))) ∧ Two w' m b l1 es1 rb l2 es2 ∧ Loc w w' b l1 l1 rb l2 l2 := by
  have L0 : Hid (Below w.heap.size w (w.alloc (.cells #[.int .i64 8, .int .i64 N, .int .i64 M, .slice a n c] 48))) := (Below.refl _ w).alloc (Nat.le_refl _) _
  have T0 := Lib.hid (h.below (Nat.le_refl _) L0.out)
  have I1 := Lib.hid i1
  have I2 := Lib.hid i2
  have hb1 := h.lg.lb.lt
  have hb2 := h.rg.lb.lt
  have HMS := Lib.hid h.ms
  clear h i1 i2
  clear K1 K2 hM1 hM2
  go_enter Try.func25, Try.ntmps25
  have KL1 : Hid (∀ W, Below (w.alloc (.cells #[.int .i64 8, .int .i64 N, .int .i64 M, .slice a n c] 48)).heap.size (w.alloc (.cells #[.int .i64 8, .int .i64 N, .int .i64 M, .slice a n c] 48)) W → W.cell? ⟨w.heap.size, 1, none⟩ = some (.int .i64 N)) := by show ∀ W, _; intro W h; exact (h.cell (by simp)).trans (by simp)
  have KL2 : Hid (∀ W, Below (w.alloc (.cells #[.int .i64 8, .int .i64 N, .int .i64 M, .slice a n c] 48)).heap.size (w.alloc (.cells #[.int .i64 8, .int .i64 N, .int .i64 M, .slice a n c] 48)) W → W.cell? ⟨w.heap.size, 2, none⟩ = some (.int .i64 M)) := by show ∀ W, _; intro W h; exact (h.cell (by simp)).trans (by simp)
  have KK0 : Hid (∀ W, Below (w.alloc (.cells #[.int .i64 8, .int .i64 N, .int .i64 M, .slice a n c] 48)).heap.size (w.alloc (.cells #[.int .i64 8, .int .i64 N, .int .i64 M, .slice a n c] 48)) W → Calls Try.prog 32 #[.pointer (some ⟨b, 0, none⟩), .int .i64 N, .int .i64 M] W fun e w' => e = .returned (.bool (nwrB l1 es1 N M)) ∧ Below (w.alloc (.cells #[.int .i64 8, .int .i64 N, .int .i64 M, .slice a n c] 48)).heap.size (w.alloc (.cells #[.int .i64 8, .int .i64 N, .int .i64 M, .slice a n c] 48)) w') := by
    show ∀ W, _
    intro W h
    have g := T0.out.below (Nat.le_refl _) h
    refine (newer_any m b l1 es1 N M W g.lg I1.out.ok).mono ?_
    rintro e w' ⟨rfl, hb⟩
    exact ⟨rfl, h.trans (hb.mono h.size)⟩
  have KK1 : Hid (∀ W, Below (w.alloc (.cells #[.int .i64 8, .int .i64 N, .int .i64 M, .slice a n c] 48)).heap.size (w.alloc (.cells #[.int .i64 8, .int .i64 N, .int .i64 M, .slice a n c] 48)) W → Calls Try.prog 54 #[.pointer (some ⟨rb, 0, none⟩), .int .i64 N, .int .i64 M] W fun e w' => e = .returned (.bool (nwrB l2 es2 N M)) ∧ Below (w.alloc (.cells #[.int .i64 8, .int .i64 N, .int .i64 M, .slice a n c] 48)).heap.size (w.alloc (.cells #[.int .i64 8, .int .i64 N, .int .i64 M, .slice a n c] 48)) w') := by
    show ∀ W, _
    intro W h
    have g := T0.out.below (Nat.le_refl _) h
    refine (refnewer_any m rb l2 es2 N M W g.rg I2.out.ok).mono ?_
    rintro e w' ⟨rfl, hb⟩
    exact ⟨rfl, h.trans (hb.mono h.size)⟩
  have KK2 : Hid (∀ W, Below (w.alloc (.cells #[.int .i64 8, .int .i64 N, .int .i64 M, .slice a n c] 48)).heap.size (w.alloc (.cells #[.int .i64 8, .int .i64 N, .int .i64 M, .slice a n c] 48)) W → Calls Try.prog 14 #[.pointer (some ⟨b, 0, none⟩), .int .i64 N, .int .i64 M] W fun e w' => e = .returned (.int .i64 (l1.ix + (hintN (pts es1) M (hint0 l1 N) : Nat))) ∧ Below (w.alloc (.cells #[.int .i64 8, .int .i64 N, .int .i64 M, .slice a n c] 48)).heap.size (w.alloc (.cells #[.int .i64 8, .int .i64 N, .int .i64 M, .slice a n c] 48)) w') := by
    show ∀ W, _
    intro W h
    have g := T0.out.below (Nat.le_refl _) h
    refine (hint_any b l1 (pts es1) N M W g.lg.lb g.lg.ep I1.out.ok).mono ?_
    rintro e w' ⟨rfl, hb⟩
    exact ⟨rfl, h.trans (hb.mono h.size)⟩
  have KK3 : Hid (∀ W, Below (w.alloc (.cells #[.int .i64 8, .int .i64 N, .int .i64 M, .slice a n c] 48)).heap.size (w.alloc (.cells #[.int .i64 8, .int .i64 N, .int .i64 M, .slice a n c] 48)) W → Calls Try.prog 55 #[.pointer (some ⟨rb, 0, none⟩), .int .i64 N, .int .i64 M] W fun e w' => e = .returned (.int .i64 (l2.ix + (hintN (pts es2) M (hint0 l2 N) : Nat))) ∧ Below (w.alloc (.cells #[.int .i64 8, .int .i64 N, .int .i64 M, .slice a n c] 48)).heap.size (w.alloc (.cells #[.int .i64 8, .int .i64 N, .int .i64 M, .slice a n c] 48)) w') := by
    show ∀ W, _
    intro W h
    have g := T0.out.below (Nat.le_refl _) h
    refine (refhint_any m rb l2 es2 N M W g.rg I2.out.ok hN1 hN2).mono ?_
    rintro e w' ⟨rfl, hb⟩
    exact ⟨rfl, h.trans (hb.mono h.size)⟩
  generalize nwrB l1 es1 N M = v1 at *
  generalize nwrB l2 es2 N M = v2 at *
  generalize l1.ix + (hintN (pts es1) M (hint0 l1 N) : Nat) = y1 at *
  generalize l2.ix + (hintN (pts es2) M (hint0 l2 N) : Nat) = y2 at *
  go_upto_region 30 with fail
  cases hv : (v1 == v2)
  · have HV := Lib.hid hv
    obtain ⟨C, HC0, HCC, HL1, HL2, HK0, HK1, HK2, HK3, hcl⟩ : ∃ C : World → Prop, Hid (C (w.alloc (.cells #[.int .i64 8, .int .i64 N, .int .i64 M, .slice a n c] 48)).drew) ∧ Hid (∀ W, C W → Below (w.alloc (.cells #[.int .i64 8, .int .i64 N, .int .i64 M, .slice a n c] 48)).heap.size (w.alloc (.cells #[.int .i64 8, .int .i64 N, .int .i64 M, .slice a n c] 48)) W) ∧ Hid (∀ W, C W → W.cell? ⟨w.heap.size, 1, none⟩ = some (.int .i64 N)) ∧ Hid (∀ W, C W → W.cell? ⟨w.heap.size, 2, none⟩ = some (.int .i64 M)) ∧ Hid (∀ W, C W → Calls Try.prog 32 #[.pointer (some ⟨b, 0, none⟩), .int .i64 N, .int .i64 M] W fun e w' => e = .returned (.bool v1) ∧ C w') ∧ Hid (∀ W, C W → Calls Try.prog 54 #[.pointer (some ⟨rb, 0, none⟩), .int .i64 N, .int .i64 M] W fun e w' => e = .returned (.bool v2) ∧ C w') ∧ Hid (∀ W, C W → Calls Try.prog 14 #[.pointer (some ⟨b, 0, none⟩), .int .i64 N, .int .i64 M] W fun e w' => e = .returned (.int .i64 y1) ∧ C w') ∧ Hid (∀ W, C W → Calls Try.prog 55 #[.pointer (some ⟨rb, 0, none⟩), .int .i64 N, .int .i64 M] W fun e w' => e = .returned (.int .i64 y2) ∧ C w') ∧ (∀ q : Prop, (∀ W, C W → q) ↔ q) :=
      ⟨fun W => Below (w.alloc (.cells #[.int .i64 8, .int .i64 N, .int .i64 M, .slice a n c] 48)).heap.size (w.alloc (.cells #[.int .i64 8, .int .i64 N, .int .i64 M, .slice a n c] 48)) W, (Below.refl _ _).drew, fun _ h => h, KL1.out, KL2.out, KK0.out, KK1.out, KK2.out, KK3.out, fun q => ⟨fun h => h _ (Below.refl _ _), fun h _ _ => h⟩⟩
    refine wp_region_class C (by kernel_rfl) (by kernel_rfl) HC0.out ?_
    repeat (first
      | go_big_quiet_skip
      | (go_big_quiet_want
         first
         | (refine quiet_load 3 _ ⟨w.heap.size, 1, none⟩ (.int .i64 N) rfl rfl HL1.out ?_; try simp only [Act.put, List.setIfInBounds_toArray, List.set_cons_zero, List.set_cons_succ]; go_big_quiet_on)
         | (refine quiet_load 3 _ ⟨w.heap.size, 2, none⟩ (.int .i64 M) rfl rfl HL2.out ?_; try simp only [Act.put, List.setIfInBounds_toArray, List.set_cons_zero, List.set_cons_succ]; go_big_quiet_on)
         | (go_big_quiet_op
            first
            | go_big_quiet_on
            | (apply Exists.intro
               refine ⟨?_, ?_⟩
               · (first | exact HK0.out | exact HK1.out | exact HK2.out | exact HK3.out )
               go_big_quiet_on))))
    refine wpQuiet_nil ?_
    intro wz hz
    have HZ := Lib.hid (HCC.out wz hz)
    clear hz HC0 HCC hcl HL1 HL2 HK0 HK1 HK2 HK3
    clear KL1 KL2 KK0 KK1 KK2 KK3
    go_wp2_with fail
    go_ret
    exact ⟨ret_bool (by rw [HV.out]; rfl), T0.out.below (Nat.le_refl _) HZ.out, Loc.same (L0.out.trans (HZ.out.mono L0.out.size)) (Nat.le_refl _) _ _ _ _⟩
  · have HV := Lib.hid hv
    obtain ⟨C, HC0, HCC, HL1, HL2, HK0, HK1, HK2, HK3, hcl⟩ : ∃ C : World → Prop, Hid (C (w.alloc (.cells #[.int .i64 8, .int .i64 N, .int .i64 M, .slice a n c] 48)).drew) ∧ Hid (∀ W, C W → Below (w.alloc (.cells #[.int .i64 8, .int .i64 N, .int .i64 M, .slice a n c] 48)).heap.size (w.alloc (.cells #[.int .i64 8, .int .i64 N, .int .i64 M, .slice a n c] 48)) W) ∧ Hid (∀ W, C W → W.cell? ⟨w.heap.size, 1, none⟩ = some (.int .i64 N)) ∧ Hid (∀ W, C W → W.cell? ⟨w.heap.size, 2, none⟩ = some (.int .i64 M)) ∧ Hid (∀ W, C W → Calls Try.prog 32 #[.pointer (some ⟨b, 0, none⟩), .int .i64 N, .int .i64 M] W fun e w' => e = .returned (.bool v1) ∧ C w') ∧ Hid (∀ W, C W → Calls Try.prog 54 #[.pointer (some ⟨rb, 0, none⟩), .int .i64 N, .int .i64 M] W fun e w' => e = .returned (.bool v2) ∧ C w') ∧ Hid (∀ W, C W → Calls Try.prog 14 #[.pointer (some ⟨b, 0, none⟩), .int .i64 N, .int .i64 M] W fun e w' => e = .returned (.int .i64 y1) ∧ C w') ∧ Hid (∀ W, C W → Calls Try.prog 55 #[.pointer (some ⟨rb, 0, none⟩), .int .i64 N, .int .i64 M] W fun e w' => e = .returned (.int .i64 y2) ∧ C w') ∧ (∀ q : Prop, (∀ W, C W → q) ↔ q) :=
      ⟨fun W => Below (w.alloc (.cells #[.int .i64 8, .int .i64 N, .int .i64 M, .slice a n c] 48)).heap.size (w.alloc (.cells #[.int .i64 8, .int .i64 N, .int .i64 M, .slice a n c] 48)) W, (Below.refl _ _).drew, fun _ h => h, KL1.out, KL2.out, KK0.out, KK1.out, KK2.out, KK3.out, fun q => ⟨fun h => h _ (Below.refl _ _), fun h _ _ => h⟩⟩
    refine wp_region_class C (by kernel_rfl) (by kernel_rfl) HC0.out ?_
    repeat (first
      | go_big_quiet_skip
      | (go_big_quiet_want
         first
         | (refine quiet_load 3 _ ⟨w.heap.size, 1, none⟩ (.int .i64 N) rfl rfl HL1.out ?_; try simp only [Act.put, List.setIfInBounds_toArray, List.set_cons_zero, List.set_cons_succ]; go_big_quiet_on)
         | (refine quiet_load 3 _ ⟨w.heap.size, 2, none⟩ (.int .i64 M) rfl rfl HL2.out ?_; try simp only [Act.put, List.setIfInBounds_toArray, List.set_cons_zero, List.set_cons_succ]; go_big_quiet_on)
         | (go_big_quiet_op
            first
            | go_big_quiet_on
            | (apply Exists.intro
               refine ⟨?_, ?_⟩
               · (first | exact HK0.out | exact HK1.out | exact HK2.out | exact HK3.out )
               go_big_quiet_on))))
    refine wpQuiet_nil ?_
    intro wz hz
    have HZ := Lib.hid (HCC.out wz hz)
    clear hz HC0 HCC hcl HL1 HL2 HK0 HK1 HK2 HK3
    clear KL1 KL2 KK0 KK1 KK2 KK3
    go_wp2_with fail
    go_ret
    exact ⟨ret_bool (by rw [HV.out]; rfl), T0.out.below (Nat.le_refl _) HZ.out, Loc.same (L0.out.trans (HZ.out.mono L0.out.size)) (Nat.le_refl _) _ _ _ _⟩
theorem act7 (m b : Nat) (l1 : Lg) (es1 : List Ent) (rb : Nat) (l2 : Lg) (es2 : List Ent) (N M : Int) (a : Option Addr) (n c : Nat) (w : World) (h : Two w m b l1 es1 rb l2 es2) (i1 : Inv l1 es1) (i2 : Inv l2 es2) (w0 : World) (K1 : Kn w0 m w es1) (K2 : Kn w0 m w es2) (hN1 : -9223372036854775808 ≤ N) (hN2 : N ≤ 9223372036854775807) (hM1 : -9223372036854775808 ≤ M) (hM2 : M ≤ 9223372036854775807) :
    Calls Try.prog 25 #[.pointer (some ⟨b, 0, none⟩), .pointer (some ⟨rb, 0, none⟩), .agg #[.int .i64 7, .int .i64 N, .int .i64 M, .slice a n c]] w fun e w' => e = .returned (.bool (((termF l1 (pts es1) N).1 == (termF l2 (pts es2) N).1) && (((termF l1 (pts es1) N).2 == (termF l2 (pts es2) N).2) && likeE (slcE l1 es1 N M) (slcE l2 es2 N M)))) ∧ Two w' m b l1 es1 rb l2 es2 ∧ Loc w w' b l1 l1 rb l2 l2 := by
  have L0 : Hid (Below w.heap.size w (w.alloc (.cells #[.int .i64 7, .int .i64 N, .int .i64 M, .slice a n c] 48))) := (Below.refl _ w).alloc (Nat.le_refl _) _
  have T0 := Lib.hid (h.below (Nat.le_refl _) L0.out)
  have I1 := Lib.hid i1
  have I2 := Lib.hid i2
  have hb1 := h.lg.lb.lt
  have hb2 := h.rg.lb.lt
  have HMS := Lib.hid h.ms
  clear h i1 i2
  have HK1 := Lib.hid K1
  have HK2 := Lib.hid K2
  clear K1 K2
  go_enter Try.func25, Try.ntmps25
  go_wp2_with fail
  refine (term_any b l1 (pts es1) N _ T0.out.lg.lb T0.out.lg.ep I1.out.ok).mono ?_
  rintro e w1 ⟨rfl, hb⟩
  have z1 : w1.cell? ⟨w.heap.size, 1, none⟩ = some (.int .i64 N) := kept_low (p := ⟨w.heap.size, 1, none⟩) hb (Nat.le_refl _) (by simp)
  have z2 : w1.cell? ⟨w.heap.size, 2, none⟩ = some (.int .i64 M) := kept_low (p := ⟨w.heap.size, 2, none⟩) hb (Nat.le_refl _) (by simp)
  have T1 := Lib.hid (T0.out.below (Nat.le_refl _) hb)
  have L1 := Lib.hid (L0.out.trans (hb.mono L0.out.size))
  clear hb
  go_wp2_with fail
  refine (refterm_any m rb l2 es2 N _ T1.out.rg I2.out.ok).mono ?_
  rintro e w2 ⟨rfl, hb⟩
  have y1 : w2.cell? ⟨w.heap.size, 1, none⟩ = some (.int .i64 N) := kept_low (p := ⟨w.heap.size, 1, none⟩) hb (Nat.le_refl _) z1
  have y2 : w2.cell? ⟨w.heap.size, 2, none⟩ = some (.int .i64 M) := kept_low (p := ⟨w.heap.size, 2, none⟩) hb (Nat.le_refl _) z2
  have T2 := Lib.hid (T1.out.below (Nat.le_refl _) hb)
  have L2 := Lib.hid (L1.out.trans (hb.mono L1.out.size))
  clear hb z1 z2 T0 T1 L0 L1
  obtain ⟨t, e, hte⟩ : ∃ t e, termF l1 (pts es1) N = (t, e) := ⟨_, _, rfl⟩
  obtain ⟨u, f, huf⟩ : ∃ u f, termF l2 (pts es2) N = (u, f) := ⟨_, _, rfl⟩
  rw [hte, huf]
  have HTE := Lib.hid hte
  have HUF := Lib.hid huf
  clear hte huf
  dsimp only
  have KL1 : Hid (∀ W, Below w2.heap.size w2 W → W.cell? ⟨w.heap.size, 1, none⟩ = some (.int .i64 N)) := by show ∀ W, _; intro W h; exact kept_low (p := ⟨w.heap.size, 1, none⟩) h (Nat.le_refl _) y1
  have KL2 : Hid (∀ W, Below w2.heap.size w2 W → W.cell? ⟨w.heap.size, 2, none⟩ = some (.int .i64 M)) := by show ∀ W, _; intro W h; exact kept_low (p := ⟨w.heap.size, 2, none⟩) h (Nat.le_refl _) y2
  clear y1 y2
  go_upto_region 28 with fail
  cases hv : (t == u)
  · have HV := Lib.hid hv
    obtain ⟨C, HC0, HCC, HL1, HL2, hcl⟩ : ∃ C : World → Prop, Hid (C w2.drew) ∧ Hid (∀ W, C W → Below w2.heap.size w2 W) ∧ Hid (∀ W, C W → W.cell? ⟨w.heap.size, 1, none⟩ = some (.int .i64 N)) ∧ Hid (∀ W, C W → W.cell? ⟨w.heap.size, 2, none⟩ = some (.int .i64 M)) ∧ (∀ q : Prop, (∀ W, C W → q) ↔ q) :=
      ⟨fun W => Below w2.heap.size w2 W, (Below.refl _ _).drew, fun _ h => h, KL1.out, KL2.out, fun q => ⟨fun h => h _ (Below.refl _ _), fun h _ _ => h⟩⟩
    refine wp_region_class C (by kernel_rfl) (by kernel_rfl) HC0.out ?_
    repeat (first
      | go_big_quiet_skip
      | (go_big_quiet_want
         first
         | (refine quiet_load 3 _ ⟨w.heap.size, 1, none⟩ (.int .i64 N) rfl rfl HL1.out ?_; try simp only [Act.put, List.setIfInBounds_toArray, List.set_cons_zero, List.set_cons_succ]; go_big_quiet_on)
         | (refine quiet_load 3 _ ⟨w.heap.size, 2, none⟩ (.int .i64 M) rfl rfl HL2.out ?_; try simp only [Act.put, List.setIfInBounds_toArray, List.set_cons_zero, List.set_cons_succ]; go_big_quiet_on)
         | (go_big_quiet_op
            first
            | go_big_quiet_on
            | (apply Exists.intro
               refine ⟨?_, ?_⟩
               · (first | skip)
               go_big_quiet_on))))
    refine wpQuiet_nil ?_
    intro wz hz
    have HZ := Lib.hid (HCC.out wz hz)
    clear hz HC0 HCC hcl HL1 HL2
    clear KL1 KL2
    go_wp2_with fail
    go_ret
    exact ⟨ret_bool (by rw [HTE.out, HUF.out]; dsimp only; rw [HV.out]; rfl), T2.out.below (Nat.le_refl _) HZ.out, Loc.same (L2.out.trans (HZ.out.mono L2.out.size)) (Nat.le_refl _) _ _ _ _⟩
  have HV := Lib.hid hv
  cases hu : (e == f)
  · have HU := Lib.hid hu
    obtain ⟨C, HC0, HCC, HL1, HL2, hcl⟩ : ∃ C : World → Prop, Hid (C w2.drew) ∧ Hid (∀ W, C W → Below w2.heap.size w2 W) ∧ Hid (∀ W, C W → W.cell? ⟨w.heap.size, 1, none⟩ = some (.int .i64 N)) ∧ Hid (∀ W, C W → W.cell? ⟨w.heap.size, 2, none⟩ = some (.int .i64 M)) ∧ (∀ q : Prop, (∀ W, C W → q) ↔ q) :=
      ⟨fun W => Below w2.heap.size w2 W, (Below.refl _ _).drew, fun _ h => h, KL1.out, KL2.out, fun q => ⟨fun h => h _ (Below.refl _ _), fun h _ _ => h⟩⟩
    refine wp_region_class C (by kernel_rfl) (by kernel_rfl) HC0.out ?_
    repeat (first
      | go_big_quiet_skip
      | (go_big_quiet_want
         first
         | (refine quiet_load 3 _ ⟨w.heap.size, 1, none⟩ (.int .i64 N) rfl rfl HL1.out ?_; try simp only [Act.put, List.setIfInBounds_toArray, List.set_cons_zero, List.set_cons_succ]; go_big_quiet_on)
         | (refine quiet_load 3 _ ⟨w.heap.size, 2, none⟩ (.int .i64 M) rfl rfl HL2.out ?_; try simp only [Act.put, List.setIfInBounds_toArray, List.set_cons_zero, List.set_cons_succ]; go_big_quiet_on)
         | (go_big_quiet_op
            first
            | go_big_quiet_on
            | (apply Exists.intro
               refine ⟨?_, ?_⟩
               · (first | skip)
               go_big_quiet_on))))
    refine wpQuiet_nil ?_
    intro wz hz
    have HZ := Lib.hid (HCC.out wz hz)
    clear hz HC0 HCC hcl HL1 HL2
    clear KL1 KL2
    go_wp2_with fail
    go_ret
    exact ⟨ret_bool (by rw [HTE.out, HUF.out]; dsimp only; rw [HV.out, HU.out]; rfl), T2.out.below (Nat.le_refl _) HZ.out, Loc.same (L2.out.trans (HZ.out.mono L2.out.size)) (Nat.le_refl _) _ _ _ _⟩
  have HU := Lib.hid hu
  have hS : Hid (∀ W, Below w2.heap.size w2 W → (W.cell? ⟨w.heap.size, 1, none⟩ = some (.int .i64 N) ∧ W.cell? ⟨w.heap.size, 2, none⟩ = some (.int .i64 M) ∧ Below w2.heap.size w2 W)) := by
    show ∀ W, _
    exact fun W h => ⟨KL1.out W h, KL2.out W h, h⟩
  have TD := Lib.hid (T2.out.below (Nat.le_refl _) (Below.refl _ _).drew)
  have HLM : Hid (Below m w w2) := L2.out.mono HMS.out
  clear KL1 KL2
  go_region_held3 (fun W => W.cell? ⟨w.heap.size, 1, none⟩ = some (.int .i64 N) ∧ W.cell? ⟨w.heap.size, 2, none⟩ = some (.int .i64 M) ∧ Below w2.heap.size w2 W)
    (first | exact hS.out _ (Below.refl _ _) | exact hS.out _ (Below.refl _ _).drew | exact hS.out _ (held_2 (by assumption)) | exact hS.out _ hB1 | exact hS.out _ hB2 | exact hS.out _ (hB2.trans (hb3.mono hB2.size)))
    (first
      | (go_at_call 24; (with_reducible refine (slice_any m b l1 es1 N M _ TD.out.lg I1.out.ok hM1 hM2).mono ?_); rintro e w3 ⟨a1, q1, c1, rfl, ho1, hb1⟩; have hB1 : Below w2.heap.size w2 w3 := ((Below.refl w2.heap.size w2).drew).trans hb1)
      | (go_at_call 53; refine (refslice_any m rb l2 es2 N M _ (T2.out.rg.below (Nat.le_refl _) hB1) I2.out.ok).mono ?_; rintro e w4 ⟨a2, q2, c2, rfl, ho2, hb2⟩; have hB2 : Below w2.heap.size w2 w4 := hB1.trans (hb2.mono hB1.size))
      | (go_at_call 48; refine (like_two ho1 (fun _ => trivial) (Kept.of (S := fun _ => False) hb2 (Nat.le_refl _)) (fun j hj => False.elim hj) ho2 ((HK1.out.below (HLM.out.trans (hB2.mono T2.out.ms))).sub mem_slc) ((HK2.out.below (HLM.out.trans (hB2.mono T2.out.ms))).sub mem_slc) (by have h1 := own_len ho1; have h2 := I1.out.ok.small; have h4 := slc_len l1 es1 N M; have h5 := TD.out.lg.len; omega)).mono ?_; rintro e w5 ⟨rfl, hb3⟩))
  all_goals (
    have D1 := Lib.hid (T2.out.below (Nat.le_refl _) (hB2.trans (hb3.mono hB2.size)))
    have D2 := Lib.hid (Loc.same (L2.out.trans ((hB2.trans (hb3.mono hB2.size)).mono L2.out.size)) (Nat.le_refl _) b l1 rb l2)
    clear hb1 hb2 hb3 hB1 hB2 hS L2 T2 TD ho1 ho2 hu hv
    rename_i hHeld
    clear hHeld
    go_wp2_with fail
    go_ret
    exact ⟨ret_bool (by rw [HTE.out, HUF.out]; dsimp only; rw [HV.out, HU.out]; rfl), D1.out, D2.out⟩)
end Go.Proofs.Ytbgfpmnicpmieaa
