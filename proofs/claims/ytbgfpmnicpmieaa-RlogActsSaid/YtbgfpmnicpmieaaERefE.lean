/- Append of the document's log. -/
import Derived.Test.YtbgfpmnicpmieaaEKs
namespace Go.Proofs.Ytbgfpmnicpmieaa
open Go Go.RowKit Go.Shelf Go.Sort
set_option linter.unusedVariables false
set_option linter.unusedSimpArgs false
set_option maxRecDepth 100000
set_option maxHeartbeats 1000000
theorem run_fresh2 (base : Nat) (ty : TypeId) (p : Nat) (w : World) (hX : w.heap[p]? = some (.cells #[] 37 (0, 0))) (hb : base ≤ w.heap.size) (hp : base ≤ p) (a : Option Addr) (m c : Nat) (ys : List Ent) (hY : ER w a m ys) (hbytes : m * 168 ≤ 140737488355328) :
    ∃ a' c' w', (Builtin.append_ #[22, 22] ty #[.slice (some ⟨p, 0, none⟩) 0 0, .slice a m c]).run Try.prog w = .ok (.slice a' m c') w' ∧ w'.ownsRow base 37 13 (.slice a' m c') m (flatE ys) ∧ Kept (· = p) w w' := by
  have hown : w.ownsRow base 37 13 (.slice (some ⟨p, 0, none⟩) 0 0) 0 (flatE []) := ⟨rfl, .inr ⟨p, 0, #[], rfl, hp, hX, Nat.le_refl _, Nat.zero_le _, rfl, rfl⟩⟩
  cases a with
  | none =>
    have h0 : m = 0 := by
      rcases hY.2 with h | ⟨b, off, e, _⟩
      · exact h
      · cases e
    subst h0
    have hys : ys = [] := List.eq_nil_of_length_eq_zero hY.1
    subst hys
    exact ⟨_, _, w, run_app0 ty ⟨p, 0, none⟩ none c w, hown, Kept.refl _ _⟩
  | some q =>
    obtain ⟨v', w', hr, h2, h3, h5⟩ := run_appE base ty _ 0 [] w hown hb q m c ys hY (by omega)
    rw [Nat.zero_add, List.nil_append] at h2
    obtain ⟨a', c', rfl, _, _⟩ := own_er h2
    exact ⟨a', c', w', hr, h2, (Kept.refl _ w).grown h3 (fun k ek _ => by have e : some p = some k := ek; injection e with e; exact e.symm)⟩
theorem ER.kept {w w' : World} {a : Option Addr} {n : Nat} {es : List Ent} {S : Nat → Prop} (h : ER w a n es) (hk : Kept S w w') (hs : ∀ b off, a = some ⟨b, off, none⟩ → ¬ S b) : ER w' a n es := by
  refine ⟨h.1, ?_⟩
  rcases h.2 with h0 | ⟨b, off, e, hc⟩
  · exact .inl h0
  · exact .inr ⟨b, off, e, fun j hj c hc' => kept_cell hk (hc j hj c hc') (hs b off e)⟩
theorem step_fresh {ops : Array Oper} {o : Oper} {a : Act} {w : World} {K : Act → World → Prop} {Q : Exit → Act → World → Prop} {E : Prop} (hgd : o.guard = none) (s x : Operand)
    (ho : o.op = .call { callee := .builtin .append, args := #[s, x], argTypes := #[22, 22] }) (base p : Nat) (hs : a.eval s = .slice (some ⟨p, 0, none⟩) 0 0) (hX : w.heap[p]? = some (.cells #[] 37 (0, 0))) (hb : base ≤ w.heap.size) (hp : base ≤ p)
    (ad : Option Addr) (m c : Nat) (hx : a.eval x = .slice ad m c) (ys : List Ent) (hY : ER w ad m ys) (hbytes : m * 168 ≤ 140737488355328)
    (h : ∀ a' c' w', w'.ownsRow base 37 13 (.slice a' m c') m (flatE ys) → Kept (· = p) w w' → K (a.put o.dst (.slice a' m c')) w') :
    if Region.wanted o (yielded ops a.tmps) = true then Oper.wp Try.prog o a w K Q else E := by
  have hw : Region.wanted o (yielded ops a.tmps) = true := by simp [Region.wanted, hgd]
  rw [if_pos hw]
  obtain ⟨a', c', w', hr, h1, h2⟩ := run_fresh2 base o.type p w hX hb hp ad m c ys hY hbytes
  unfold Oper.wp execOp
  simp only [ho, resolve, invoke, builtin, Sem.run_bind, Sem.run_pure, Result.andThen_ok, List.map_toArray, List.map_cons, List.map_nil, hs, hx, hr]
  exact h a' c' w' h1 h2
theorem step_ownE {ops : Array Oper} {o : Oper} {a : Act} {w : World} {K : Act → World → Prop} {Q : Exit → Act → World → Prop} {E : Prop} (hgd : o.guard = none) (s x : Operand)
    (ho : o.op = .call { callee := .builtin .append, args := #[s, x], argTypes := #[22, 22] }) (base : Nat) (v : Value) (n : Nat) (xs : List Ent) (hs : a.eval s = v) (hX : w.ownsRow base 37 13 v n (flatE xs)) (hb : base ≤ w.heap.size)
    (q : Addr) (m c : Nat) (hx : a.eval x = .slice (some q) m c) (ys : List Ent) (hY : ER w (some q) m ys) (hbytes : (n + m) * 168 ≤ 140737488355328)
    (h : ∀ a' c' w', w'.ownsRow base 37 13 (.slice a' (n + m) c') (n + m) (flatE (xs ++ ys)) → Below base w w' → K (a.put o.dst (.slice a' (n + m) c')) w') :
    if Region.wanted o (yielded ops a.tmps) = true then Oper.wp Try.prog o a w K Q else E := by
  have hw : Region.wanted o (yielded ops a.tmps) = true := by simp [Region.wanted, hgd]
  rw [if_pos hw]
  obtain ⟨v', w', hr, h1, h2, h3⟩ := run_appE base o.type v n xs w hX hb q m c ys hY hbytes
  obtain ⟨a', c', rfl, _, _⟩ := own_er h1
  unfold Oper.wp execOp
  simp only [ho, resolve, invoke, builtin, Sem.run_bind, Sem.run_pure, Result.andThen_ok, List.map_toArray, List.map_cons, List.map_nil, hs, hx, hr]
  exact h a' c' w' h1 ((Below.refl _ w).grown h2 hb (fun k ek => own_blk hX ek))
def AppendR (w : World) (m b : Nat) (l : Lg) (es : List Ent) (x : Ent) (e : Ending) (w' : World) : Prop :=
  (addB l es x = false ∧ e = .returned (.int .i64 2) ∧ RG w' m b l es ∧ Below w.heap.size w w') ∨
  (addB l es x = true ∧ e = .returned (.int .i64 0) ∧ Kept (· = b) w w' ∧ ∃ a c, RG w' m b { l with a := a, n := l.n + 1, c := c } (es ++ [x]) ∧ ∀ j, gOf { l with a := a, n := l.n + 1, c := c } = some j → w.heap.size ≤ j)
theorem refappend_any (m b : Nat) (l : Lg) (es : List Ent) (x : Ent) (w : World) (hg : RG w m b l es) (hi : Inv l es) (hx : EK w x) :
    Calls Try.prog 44 #[.pointer (some ⟨b, 0, none⟩), x.v] w (AppendR w m b l es x) := by
  have L0 : Hid (Below w.heap.size w (w.alloc (.cells x.cs'.toArray 37))) := (Below.refl _ w).alloc (Nat.le_refl _) _
  have HQ : Hid (addB l es x = chainB (l.ix + l.n) (lastP l (pts es)).2 [x]) := rfl
  have G0 := Lib.hid (hg.below (Nat.le_refl _) L0.out)
  have HI := Lib.hid hi.ok.is
  have HL := Lib.hid (reflast_any m b l es _ G0.out hi.ok.small)
  have HLa := Lib.hid hi.ok.last
  have HX := Lib.hid (hx.keep (Nat.le_refl _) L0.out)
  have hbl := hg.lb.lt
  have hsm := hi.ok.small
  have hlo := hi.ok.lo
  have hhi := hi.ok.hi
  have HC := Lib.hid (box37 w x)
  clear hg hi hx
  go_enter Try.func44, Try.ntmps44
  go_wp2_with fail
  refine HL.out.mono ?_
  rintro e w1 ⟨rfl, hb⟩
  rw [HLa.out]
  have L1 := Lib.hid (L0.out.trans (hb.mono L0.out.size))
  have G1 := Lib.hid (G0.out.below (Nat.le_refl _) hb)
  have X1 := Lib.hid (HX.out.keep (Nat.le_refl _) hb)
  have C1 : Hid (∀ c, c < 13 → w1.cell? ⟨w.heap.size, 0 + c, none⟩ = some (x.cs'.getD c undef)) := by
    show ∀ c, _
    intro c hc
    exact kept_low hb (Nat.le_refl _) (HC.out c hc)
  clear hb HL G0 HX HC L0 HLa
  generalize (lastP l (pts es)).2 = lt at *
  have r0 := C1.out 0 (by omega)
  have r1 := C1.out 1 (by omega)
  have r2 := C1.out 2 (by omega)
  have r3 := C1.out 3 (by omega)
  have r4 := C1.out 4 (by omega)
  have r5 := C1.out 5 (by omega)
  have r6 := C1.out 6 (by omega)
  have r7 := C1.out 7 (by omega)
  have r8 := C1.out 8 (by omega)
  have r9 := C1.out 9 (by omega)
  have r10 := C1.out 10 (by omega)
  have r11 := C1.out 11 (by omega)
  have r12 := C1.out 12 (by omega)
  simp only [List.getD_cons_zero, List.getD_cons_succ, Nat.zero_add] at r0 r1 r2 r3 r4 r5 r6 r7 r8 r9 r10 r11 r12
  have hws : w.heap.size < w1.heap.size := cell_block_lt r0
  dsimp only
  go_wp2_with fail
  refine (refchain_any (l.ix + l.n) lt (some ⟨w1.heap.size, 0, none⟩) 1 1 [x] _ (er_one w1 x) (fun y hy => by
    rw [List.mem_singleton] at hy; subst hy; exact X1.out.keep (Nat.le_refl _) ((Below.refl _ _).alloc (Nat.le_refl _) _)) (by omega) (by omega) (by omega)).mono ?_
  rintro e w2 ⟨rfl, hb⟩
  have LA : Below w1.heap.size w1 (w1.alloc (.cells x.cs'.toArray 37)) := (Below.refl _ w1).alloc (Nat.le_refl _) _
  have hb2 := LA.trans (hb.mono LA.size)
  have L2 := Lib.hid (L1.out.trans (hb2.mono L1.out.size))
  have G2 := Lib.hid (G1.out.below (Nat.le_refl _) hb2)
  have C2 : Hid (∀ c, c < 13 → w2.cell? ⟨w.heap.size, 0 + c, none⟩ = some (x.cs'.getD c undef)) := by
    show ∀ c, _
    intro c hc
    exact kept_low hb2 (Nat.le_refl _) (C1.out c hc)
  rw [← HQ.out]
  clear hb hb2 LA r0 r1 r2 r3 r4 r5 r6 r7 r8 r9 r10 r11 r12 C1 G1 L1 X1 hws
  cases hc : addB l es x
  · have HF := Lib.hid hc
    clear hc
    go_wp2_with fail
    go_ret
    exact .inl ⟨HF.out, rfl, G2.out, L2.out⟩
  have HF := Lib.hid hc
  clear hc
  have r0 := C2.out 0 (by omega)
  have r1 := C2.out 1 (by omega)
  have r2 := C2.out 2 (by omega)
  have r3 := C2.out 3 (by omega)
  have r4 := C2.out 4 (by omega)
  have r5 := C2.out 5 (by omega)
  have r6 := C2.out 6 (by omega)
  have r7 := C2.out 7 (by omega)
  have r8 := C2.out 8 (by omega)
  have r9 := C2.out 9 (by omega)
  have r10 := C2.out 10 (by omega)
  have r11 := C2.out 11 (by omega)
  have r12 := C2.out 12 (by omega)
  simp only [List.getD_cons_zero, List.getD_cons_succ, Nat.zero_add] at r0 r1 r2 r3 r4 r5 r6 r7 r8 r9 r10 r11 r12
  have hws : w.heap.size < w2.heap.size := cell_block_lt r0
  have hb2 : b < w2.heap.size := G2.out.lb.lt
  have c2 := G2.out.lb.c2
  have fz := G2.out.lb.frozen 2
  go_upto_region 4 with fail
  have hXE := Lib.hid G2.out.er
  have hnb : l.n * 168 ≤ 140737488355328 := by omega
  have HLa : Hid (Below w2.heap.size w2 ((w2.alloc (.cells #[] 37)).drew)) := ((Below.refl w2.heap.size w2).alloc (Nat.le_refl _) _).drew
  have HLb : Hid (Below w2.heap.size w2 (((w2.alloc (.cells #[] 37)).alloc (.cells x.cs'.toArray 37)).drew)) := (((Below.refl w2.heap.size w2).alloc (Nat.le_refl _) _).alloc (by simp) _).drew
  have HLc : Hid (Below w2.heap.size w2 (((w2.alloc (.cells x.cs'.toArray 37)).alloc (.cells #[] 37)).drew)) := (((Below.refl w2.heap.size w2).alloc (Nat.le_refl _) _).alloc (by simp) _).drew
  have hXb : Hid ((((w2.alloc (.cells #[] 37)).alloc (.cells x.cs'.toArray 37)).drew).heap[w2.heap.size]? = some (.cells #[] 37 (0, 0))) := (Below.heap_alloc (w2.alloc (.cells #[] 37)) (.cells x.cs'.toArray 37) w2.heap.size (by simp)).trans (heap_alloc_new w2 _)
  have hXc : Hid ((((w2.alloc (.cells x.cs'.toArray 37)).alloc (.cells #[] 37)).drew).heap[w2.heap.size + 1]? = some (.cells #[] 37 (0, 0))) := by
    have h := heap_alloc_new (w2.alloc (.cells x.cs'.toArray 37)) (.cells #[] 37)
    rwa [World.size_alloc] at h
  have hEb : Hid (ER ((w2.alloc (.cells #[] 37)).alloc (.cells x.cs'.toArray 37)).drew (some ⟨w2.heap.size + 1, 0, none⟩) 1 [x]) := by
    have h := er_one (w2.alloc (.cells #[] 37)) x
    rw [World.size_alloc] at h
    exact h.keep (Nat.le_refl _) (Below.refl _ _).drew
  have hEc : Hid (ER ((w2.alloc (.cells x.cs'.toArray 37)).alloc (.cells #[] 37)).drew (some ⟨w2.heap.size, 0, none⟩) 1 [x]) :=
    (er_one w2 x).keep (Nat.le_refl _) (((Below.refl _ _).alloc (Nat.le_refl _) _).drew)
  go_cut [27] (fun v wx => ∃ w6 a6 k6, w6.ownsRow w2.heap.size 37 13 (.slice a6 (l.n + 1) k6) (l.n + 1) (flatE (es ++ [x])) ∧ Below w2.heap.size w2 w6 ∧ wx = w6.setCell ⟨b, 2, none⟩ (.slice a6 (l.n + 1) k6))
  case first =>
    go_region_law (first
      | (refine step_fresh rfl _ _ rfl w2.heap.size _ rfl (heap_alloc_new _ _) HLa.out.size (by omega) l.a l.n l.c rfl es (hXE.out.keep (Nat.le_refl _) HLa.out) hnb ?_; intro a1 k1 w5 ho5 hk5; have H5 := HLa.out.trans (hk5.below HLa.out.size (fun j hj => by omega)); have s0 := kept_low H5 (Nat.le_refl _) r0; have s1 := kept_low H5 (Nat.le_refl _) r1; have s2 := kept_low H5 (Nat.le_refl _) r2; have s3 := kept_low H5 (Nat.le_refl _) r3; have s4 := kept_low H5 (Nat.le_refl _) r4; have s5 := kept_low H5 (Nat.le_refl _) r5; have s6 := kept_low H5 (Nat.le_refl _) r6; have s7 := kept_low H5 (Nat.le_refl _) r7; have s8 := kept_low H5 (Nat.le_refl _) r8; have s9 := kept_low H5 (Nat.le_refl _) r9; have s10 := kept_low H5 (Nat.le_refl _) r10; have s11 := kept_low H5 (Nat.le_refl _) r11; have s12 := kept_low H5 (Nat.le_refl _) r12; have c25 := kept_low H5 (Nat.le_refl _) c2; have fz5 : w5.frozen? ⟨b, 2, none⟩ = false := (H5.frozen (p := ⟨b, 2, none⟩) hb2).trans fz)
      | (refine step_fresh rfl _ _ rfl w2.heap.size _ rfl hXb.out HLb.out.size (by omega) l.a l.n l.c rfl es (hXE.out.keep (Nat.le_refl _) HLb.out) hnb ?_; intro a1 k1 w5 ho5 hk5; have H5 := HLb.out.trans (hk5.below HLb.out.size (fun j hj => by omega)); have hE5 := hEb.out.kept hk5 (fun b2 o2 e => by cases e; omega); have s0 := kept_low H5 (Nat.le_refl _) r0; have s1 := kept_low H5 (Nat.le_refl _) r1; have s2 := kept_low H5 (Nat.le_refl _) r2; have s3 := kept_low H5 (Nat.le_refl _) r3; have s4 := kept_low H5 (Nat.le_refl _) r4; have s5 := kept_low H5 (Nat.le_refl _) r5; have s6 := kept_low H5 (Nat.le_refl _) r6; have s7 := kept_low H5 (Nat.le_refl _) r7; have s8 := kept_low H5 (Nat.le_refl _) r8; have s9 := kept_low H5 (Nat.le_refl _) r9; have s10 := kept_low H5 (Nat.le_refl _) r10; have s11 := kept_low H5 (Nat.le_refl _) r11; have s12 := kept_low H5 (Nat.le_refl _) r12; have c25 := kept_low H5 (Nat.le_refl _) c2; have fz5 : w5.frozen? ⟨b, 2, none⟩ = false := (H5.frozen (p := ⟨b, 2, none⟩) hb2).trans fz)
      | (refine step_fresh rfl _ _ rfl w2.heap.size _ rfl hXc.out HLc.out.size (by omega) l.a l.n l.c rfl es (hXE.out.keep (Nat.le_refl _) HLc.out) hnb ?_; intro a1 k1 w5 ho5 hk5; have H5 := HLc.out.trans (hk5.below HLc.out.size (fun j hj => by omega)); have hE5 := hEc.out.kept hk5 (fun b2 o2 e => by cases e; omega); have s0 := kept_low H5 (Nat.le_refl _) r0; have s1 := kept_low H5 (Nat.le_refl _) r1; have s2 := kept_low H5 (Nat.le_refl _) r2; have s3 := kept_low H5 (Nat.le_refl _) r3; have s4 := kept_low H5 (Nat.le_refl _) r4; have s5 := kept_low H5 (Nat.le_refl _) r5; have s6 := kept_low H5 (Nat.le_refl _) r6; have s7 := kept_low H5 (Nat.le_refl _) r7; have s8 := kept_low H5 (Nat.le_refl _) r8; have s9 := kept_low H5 (Nat.le_refl _) r9; have s10 := kept_low H5 (Nat.le_refl _) r10; have s11 := kept_low H5 (Nat.le_refl _) r11; have s12 := kept_low H5 (Nat.le_refl _) r12; have c25 := kept_low H5 (Nat.le_refl _) c2; have fz5 : w5.frozen? ⟨b, 2, none⟩ = false := (H5.frozen (p := ⟨b, 2, none⟩) hb2).trans fz)
      | (refine step_ownE rfl _ _ rfl w2.heap.size _ l.n es rfl (ho5.alloc _) ((H5.alloc H5.size _).size) _ 1 1 rfl [x] (er_one w5 x) (by omega) ?_; intro a6 k6 w6 ho6 hb6; have H6 := (H5.alloc H5.size _).trans hb6; have c26 := kept_low H6 (Nat.le_refl _) c2; have fz6 : w6.frozen? ⟨b, 2, none⟩ = false := (H6.frozen (p := ⟨b, 2, none⟩) hb2).trans fz)
      | (refine step_ownE rfl _ _ rfl w2.heap.size _ l.n es rfl ho5 H5.size _ 1 1 rfl [x] hE5 (by omega) ?_; intro a6 k6 w6 ho6 hb6; have H6 := H5.trans hb6; have c26 := kept_low H6 (Nat.le_refl _) c2; have fz6 : w6.frozen? ⟨b, 2, none⟩ = false := (H6.frozen (p := ⟨b, 2, none⟩) hb2).trans fz))
    all_goals (
      have X1 := Lib.hid ho6
      have X2 := Lib.hid H6
      clear ho6 H6 hb6 ho5 hk5 H5
      go_wp2_with fail
      go_meet
      exact ⟨w6, a6, k6, X1.out, X2.out, rfl⟩)
  case rest =>
    obtain ⟨w6, a6, k6, ho6, hb6, rfl⟩ := hcut
    have HO := Lib.hid ho6
    have HB := Lib.hid hb6
    clear ho6 hb6 hXb hXc hEb hEc HLa HLb HLc c2 fz
    have HMB := G2.out.mb
    have B6 := G2.out.lb.below (Nat.le_refl _) HB.out
    have K6 : Kept (· = b) w w6 := Kept.of (L2.out.trans (HB.out.mono L2.out.size)) (Nat.le_refl _)
    have hws2 := L2.out.size
    go_wp2_with fail
    go_ret
    refine .inr ⟨HF.out, rfl, K6.setCell (p := ⟨b, 2, none⟩) rfl _, a6, k6, ⟨B6.s2 a6 (l.n + 1) k6, own_raise (own_set HO.out _ _ (fun h => ?_)) (fun j hj => ?_), HMB⟩, fun j hj => ?_⟩
    · have := (HO.out.lt _ h).1
      exact absurd this (Nat.not_le_of_lt hb2)
    · have := (HO.out.lt _ hj).1; omega
    · have := (HO.out.lt _ hj).1; omega
end Go.Proofs.Ytbgfpmnicpmieaa
