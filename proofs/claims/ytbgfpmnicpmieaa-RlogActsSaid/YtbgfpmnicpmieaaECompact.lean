/- Apply, Compact. -/
import Derived.Test.YtbgfpmnicpmieaaEApply
namespace Go.Proofs.Ytbgfpmnicpmieaa
open Go Go.RowKit Go.Shelf Go.Sort
set_option linter.unusedVariables false
set_option linter.unusedSimpArgs false
set_option maxRecDepth 100000
set_option maxHeartbeats 1000000
def appN (l : Lg) (most : Int) : Int := min (l.com - l.app) most
def appE (l : Lg) (es : List Ent) (most : Int) : List Ent := if appN l most < 1 then [] else (es.drop (l.app - l.ix).toNat).take (appN l most).toNat
def appL (l : Lg) (most : Int) : Lg := if appN l most < 1 then l else { l with app := l.app + appN l most }
theorem appL_inv {l : Lg} {es : List Ent} (h : Inv l es) (i : Int) : Inv (appL l i) es := by
  unfold appL
  split
  · exact h
  · rename_i h1
    have := h.a1
    unfold appN at *
    exact ⟨⟨h.ok.is, h.ok.len, h.ok.row, h.ok.small, h.ok.lo, h.ok.hi⟩, h.ch, by dsimp only; omega, by dsimp only; omega, h.a3, h.s1, h.s2, h.top⟩
def ApplyP (w : World) (m b : Nat) (l : Lg) (es : List Ent) (most : Int) (e : Ending) (w' : World) : Prop :=
  (∃ a n c, e = .returned (.slice a n c) ∧ w'.ownsRow w.heap.size 37 13 (.slice a n c) n (flatE (appE l es most))) ∧ LG w' m b (appL l most) es ∧ Kept (· = b) w w'
theorem apply_any (m b : Nat) (l : Lg) (es : List Ent) (most : Int) (w : World) (hg : LG w m b l es) (hi : Inv l es) (hm1 : -9223372036854775808 ≤ most) (hm2 : most ≤ 9223372036854775807) :
    Calls Try.prog 18 #[.pointer (some ⟨b, 0, none⟩), .int .i64 most] w (ApplyP w m b l es most) := by
  have HM := Lib.hid (made_any b l w hg.lb)
  have HI := Lib.hid hi.ok.is
  have HG := Lib.hid hg
  have HV := Lib.hid hi
  have i1 := hi.a1
  have i2 := hi.a2
  have i3 := hi.a3
  have hsm := hi.ok.small
  have hlo := hi.ok.lo
  have hhi := hi.ok.hi
  have HE : Hid (appE l es most = if appN l most < 1 then [] else (es.drop (l.app - l.ix).toNat).take (appN l most).toNat) := rfl
  have HL : Hid (appL l most = if appN l most < 1 then l else { l with app := l.app + appN l most }) := rfl
  have HN : Hid (appN l most = min (l.com - l.app) most) := rfl
  have h3 := hg.lb.c3
  have h4 := hg.lb.c4
  clear hg hi
  go_enter Try.func18, Try.ntmps18
  go_wp2_with fail
  refine HM.out.mono ?_
  rintro e w' ⟨rfl, rfl⟩
  rw [HI.out]
  have hw1 : IntKind.i64.wrap (l.com - l.app) = l.com - l.app := IntWalk.i64_in _ (by omega)
  obtain ⟨x, hx⟩ : ∃ x, x = min (l.com - l.app) most := ⟨_, rfl⟩
  go_upto_region 3 with fail
  go_cut [5] (fun v wx => v = .int .i64 x ∧ wx = w.drew)
  case first =>
    have HX := Lib.hid hx
    clear hx
    go_region
    all_goals (go_wp2_with fail; go_meet; exact ⟨by rw [HX.out], rfl⟩)
  case rest =>
    obtain ⟨rfl, rfl⟩ := hcut
    have L1 : Hid (Below w.heap.size w w.drew) := (Below.refl _ _).drew
    have HNX : Hid (appN l most = x) := by show _ = _; rw [HN.out, hx]
    have hx1 : x ≤ l.com - l.app := by omega
    have hx2 : -9223372036854775808 ≤ x ∧ x ≤ 9223372036854775807 := by omega
    have G1 := Lib.hid (HG.out.below (Nat.le_refl _) L1.out)
    have hbl : b < w.drew.heap.size := HG.out.lb.lt
    have HSZ : Hid (w.drew.heap.size = w.heap.size) := rfl
    clear hw1 hx h3 h4 HG HM
    generalize w.drew = w1 at *
    by_cases c1 : x < 1
    · have d1 : decide (x < 1) = true := decide_eq_true c1
      have E1 : Hid (appE l es most = []) := by show _ = _; rw [HE.out, HNX.out, if_pos c1]
      have E2 : Hid (appL l most = l) := by show _ = _; rw [HL.out, HNX.out, if_pos c1]
      clear c1
      go_wp2_with fail
      go_ret
      exact ⟨⟨none, 0, 0, rfl, by rw [E1.out]; exact World.ownsRow_nil _ _ _ _⟩, by rw [E2.out]; exact G1.out, Kept.of L1.out (Nat.le_refl _)⟩
    · have d1 : decide (x < 1) = false := decide_eq_false c1
      have E1 : Hid (appE l es most = slcE l es (l.app + 1) x) := by
        show _ = _
        rw [HE.out, HNX.out, if_neg c1, slcE, if_neg (by omega), if_neg c1]
        rw [show l.app + 1 - l.ix - 1 = l.app - l.ix by omega]
      have E2 : Hid (appL l most = { l with app := l.app + x }) := by show _ = _; rw [HL.out, HNX.out, if_neg c1]
      have h4 := G1.out.lb.c4
      clear c1
      go_wp2_with fail
      refine (slice_any m b l es (l.app + 1) x _ G1.out HV.out.ok hx2.1 hx2.2).mono ?_
      rintro e w2 ⟨a, n, c, rfl, hO, hb⟩
      have G2 := Lib.hid (G1.out.below (Nat.le_refl _) hb)
      have L2 := Lib.hid (L1.out.trans (hb.mono L1.out.size))
      have HO := Lib.hid hO
      clear hb hO h4 G1
      have h4 := G2.out.lb.c4
      have f4 := G2.out.lb.frozen 4
      go_wp2_with fail
      go_ret
      refine ⟨⟨a, n, c, rfl, ?_⟩, ?_, (Kept.of (S := (· = b)) L2.out (Nat.le_refl _)).setCell (p := ⟨b, 4, none⟩) rfl _⟩
      · rw [E1.out, ← HSZ.out]
        refine own_set HO.out _ _ (fun hh => ?_)
        have := (HO.out.lt _ hh).1
        exact absurd this (Nat.not_le_of_lt hbl)
      · rw [E2.out]
        exact G2.out.set (G2.out.lb.s4 (l.app + x)) rfl rfl rfl
def cptB (l : Lg) (i : Int) : Bool := decide (l.ix < i) && decide (i ≤ min l.app l.sur)
def cptK (l : Lg) (i : Int) : Nat := (i - l.ix - 1).toNat
def CompactP (w : World) (m b : Nat) (l : Lg) (es : List Ent) (i : Int) (e : Ending) (w' : World) : Prop :=
  (cptB l i = false ∧ e = .returned (.bool false) ∧ LG w' m b l es ∧ Kept (· = b) w w') ∨
  (cptB l i = true ∧ e = .returned (.bool true) ∧ Kept (· = b) w w' ∧ ∃ a c, LG w' m b { l with ix := i, tm := (es.getD (cptK l i) default).t, a := a, n := l.n - (cptK l i + 1), c := c } (es.drop (cptK l i + 1)) ∧ ∀ j, (Value.slice a (l.n - (cptK l i + 1)) c).ownBlock = some j → w.heap.size ≤ j)
theorem cpt_inv {l : Lg} {es : List Ent} (h : Inv l es) {i : Int} (hc : cptB l i = true) (a : Option Addr) (c : Nat) : Inv { l with ix := i, tm := (es.getD (cptK l i) default).t, a := a, n := l.n - (cptK l i + 1), c := c } (es.drop (cptK l i + 1)) := by
  simp only [cptB, Bool.and_eq_true, decide_eq_true_eq] at hc
  have h1 := h.a1
  have h2 := h.a2
  have h3 := h.a3
  have h4 := h.s2
  have hel : es.length = l.n := by have := h.ok.len; rwa [pts_len] at this
  have hk : (cptK l i : Int) = i - l.ix - 1 := by unfold cptK; omega
  have hcc := (chain_iff _ _ _).1 h.ch
  have hch : chainB i (es.getD (cptK l i) default).t (es.drop (cptK l i + 1)) = true := by
    rw [chain_iff]
    intro j hj
    rw [List.length_drop] at hj
    obtain ⟨g1, g2, g3⟩ := hcc (cptK l i + 1 + j) (by omega)
    rw [getD_drop]
    refine ⟨g1, by rw [g2]; omega, ?_⟩
    refine Int.le_trans (Int.le_of_eq ?_) g3
    cases j with
    | zero => rfl
    | succ j =>
      simp only [tmAt]
      rw [getD_drop]; rfl
  have hsm := h.ok.small
  have hhi := h.ok.hi
  have hlo := h.ok.lo
  have hlen : (es.drop (cptK l i + 1)).length = l.n - (cptK l i + 1) := by rw [List.length_drop, hel]
  refine ⟨⟨h.ok.is, by rw [pts_len]; exact hlen, fun j hj => ?_, by dsimp only; omega, by dsimp only; omega, ?_⟩, hch, ?_, h2, ?_, ?_, ?_, ?_⟩
  · rw [pts_len] at hj
    rw [pts_at _ hj]
    exact chain_row hch j hj
  · have := h.top; dsimp only; omega
  · dsimp only; omega
  · dsimp only; omega
  · dsimp only; omega
  · dsimp only; omega
  · have := h.top; dsimp only; omega
theorem compact_any (m b : Nat) (l : Lg) (es : List Ent) (i : Int) (w : World) (hg : LG w m b l es) (hi : Inv l es) :
    Calls Try.prog 21 #[.pointer (some ⟨b, 0, none⟩), .int .i64 i] w (CompactP w m b l es i) := by
  have HG := Lib.hid hg
  have HV := Lib.hid hi
  have i1 := hi.a1
  have i2 := hi.a2
  have i3 := hi.a3
  have hsm := hi.ok.small
  have hlo := hi.ok.lo
  have hhi := hi.ok.hi
  have HB : Hid (cptB l i = (decide (l.ix < i) && decide (i ≤ min l.app l.sur))) := rfl
  have KL0 : Hid (∀ W, Below w.heap.size w W → W.cell? ⟨b, 0, none⟩ = some (.int .i64 l.ix)) := by show ∀ W, _; intro W h; exact (h.cell hg.lb.lt).trans hg.lb.c0
  have KL4 : Hid (∀ W, Below w.heap.size w W → W.cell? ⟨b, 4, none⟩ = some (.int .i64 l.app)) := by show ∀ W, _; intro W h; exact (h.cell hg.lb.lt).trans hg.lb.c4
  have KL5 : Hid (∀ W, Below w.heap.size w W → W.cell? ⟨b, 5, none⟩ = some (.int .i64 l.sur)) := by show ∀ W, _; intro W h; exact (h.cell hg.lb.lt).trans hg.lb.c5
  have KCM : Hid (∀ W, Below w.heap.size w W → Calls Try.prog 41 #[.pointer (some ⟨b, 0, none⟩)] W fun e w' => e = .returned (.bool true) ∧ Below w.heap.size w w') := by
    show ∀ W, _
    intro W h
    have := made_any b l W (hg.lb.below (Nat.le_refl _) h)
    rw [hi.ok.is] at this
    refine this.mono ?_
    rintro e w' ⟨rfl, rfl⟩
    exact ⟨rfl, h⟩
  clear hg hi
  go_enter Try.func21, Try.ntmps21
  go_upto_region 1 with fail
  by_cases c1 : i ≤ l.ix
  · have d1 : decide (i ≤ l.ix) = true := decide_eq_true c1
    have HF : Hid (cptB l i = false) := by show _ = _; rw [HB.out, decide_eq_false (by omega)]; rfl
    clear c1
    obtain ⟨C, HC0, HCC, HL0, HL4, HL5, HCM, hcl⟩ : ∃ C : World → Prop, Hid (C w.drew) ∧ Hid (∀ W, C W → Below w.heap.size w W) ∧ Hid (∀ W, C W → W.cell? ⟨b, 0, none⟩ = some (.int .i64 l.ix)) ∧ Hid (∀ W, C W → W.cell? ⟨b, 4, none⟩ = some (.int .i64 l.app)) ∧ Hid (∀ W, C W → W.cell? ⟨b, 5, none⟩ = some (.int .i64 l.sur)) ∧ Hid (∀ W, C W → Calls Try.prog 41 #[.pointer (some ⟨b, 0, none⟩)] W fun e w' => e = .returned (.bool true) ∧ C w') ∧ (∀ q : Prop, (∀ W, C W → q) ↔ q) :=
      ⟨fun W => Below w.heap.size w W, (Below.refl _ _).drew, fun _ h => h, KL0.out, KL4.out, KL5.out, KCM.out, fun q => ⟨fun h => h _ (Below.refl _ _), fun h _ _ => h⟩⟩
    clear KL0 KL4 KL5 KCM
    refine wp_region_class C (by kernel_rfl) (by kernel_rfl) HC0.out ?_
    repeat (first
      | go_big_quiet_skip
      | (go_big_quiet_want
         first
         | (refine quiet_load 3 _ ⟨b, 0, none⟩ (.int .i64 l.ix) rfl rfl HL0.out ?_; try simp only [Act.put, List.setIfInBounds_toArray, List.set_cons_zero, List.set_cons_succ]; go_big_quiet_on)
         | (refine quiet_load 3 _ ⟨b, 4, none⟩ (.int .i64 l.app) rfl rfl HL4.out ?_; try simp only [Act.put, List.setIfInBounds_toArray, List.set_cons_zero, List.set_cons_succ]; go_big_quiet_on)
         | (refine quiet_load 3 _ ⟨b, 5, none⟩ (.int .i64 l.sur) rfl rfl HL5.out ?_; try simp only [Act.put, List.setIfInBounds_toArray, List.set_cons_zero, List.set_cons_succ]; go_big_quiet_on)
         | (go_big_quiet_op
            first
            | go_big_quiet_on
            | (apply Exists.intro
               refine ⟨?_, ?_⟩
               · exact HCM.out
               go_big_quiet_on))))
    refine wpQuiet_nil ?_
    intro wz hz
    have HZ := Lib.hid (HCC.out wz hz)
    clear hz HC0 HCC hcl HL0 HL4 HL5 HCM
    go_wp2_with fail
    go_ret
    exact .inl ⟨HF.out, rfl, HG.out.below (Nat.le_refl _) HZ.out, Kept.of HZ.out (Nat.le_refl _)⟩
  have d1 : decide (i ≤ l.ix) = false := decide_eq_false c1
  obtain ⟨x, hx⟩ : ∃ x, x = min l.app l.sur := ⟨_, rfl⟩
  by_cases c2 : x < i
  · have d2 : decide (x < i) = true := decide_eq_true c2
    have HF : Hid (cptB l i = false) := by show _ = _; rw [HB.out, decide_eq_true (by omega), decide_eq_false (by omega)]; rfl
    have hmn : min l.app l.sur = x := hx.symm
    clear c1 c2 hx
    obtain ⟨C, HC0, HCC, HL0, HL4, HL5, HCM, hcl⟩ : ∃ C : World → Prop, Hid (C w.drew) ∧ Hid (∀ W, C W → Below w.heap.size w W) ∧ Hid (∀ W, C W → W.cell? ⟨b, 0, none⟩ = some (.int .i64 l.ix)) ∧ Hid (∀ W, C W → W.cell? ⟨b, 4, none⟩ = some (.int .i64 l.app)) ∧ Hid (∀ W, C W → W.cell? ⟨b, 5, none⟩ = some (.int .i64 l.sur)) ∧ Hid (∀ W, C W → Calls Try.prog 41 #[.pointer (some ⟨b, 0, none⟩)] W fun e w' => e = .returned (.bool true) ∧ C w') ∧ (∀ q : Prop, (∀ W, C W → q) ↔ q) :=
      ⟨fun W => Below w.heap.size w W, (Below.refl _ _).drew, fun _ h => h, KL0.out, KL4.out, KL5.out, KCM.out, fun q => ⟨fun h => h _ (Below.refl _ _), fun h _ _ => h⟩⟩
    clear KL0 KL4 KL5 KCM
    refine wp_region_class C (by kernel_rfl) (by kernel_rfl) HC0.out ?_
    repeat (first
      | go_big_quiet_skip
      | (go_big_quiet_want
         first
         | (refine quiet_load 3 _ ⟨b, 0, none⟩ (.int .i64 l.ix) rfl rfl HL0.out ?_; try simp only [Act.put, List.setIfInBounds_toArray, List.set_cons_zero, List.set_cons_succ]; go_big_quiet_on)
         | (refine quiet_load 3 _ ⟨b, 4, none⟩ (.int .i64 l.app) rfl rfl HL4.out ?_; try simp only [Act.put, List.setIfInBounds_toArray, List.set_cons_zero, List.set_cons_succ]; go_big_quiet_on)
         | (refine quiet_load 3 _ ⟨b, 5, none⟩ (.int .i64 l.sur) rfl rfl HL5.out ?_; try simp only [Act.put, List.setIfInBounds_toArray, List.set_cons_zero, List.set_cons_succ]; go_big_quiet_on)
         | (go_big_quiet_op
            first
            | go_big_quiet_on
            | (apply Exists.intro
               refine ⟨?_, ?_⟩
               · exact HCM.out
               go_big_quiet_on))))
    refine wpQuiet_nil ?_
    intro wz hz
    have HZ := Lib.hid (HCC.out wz hz)
    clear hz HC0 HCC hcl HL0 HL4 HL5 HCM
    go_wp2_with fail
    go_ret
    exact .inl ⟨HF.out, rfl, HG.out.below (Nat.le_refl _) HZ.out, Kept.of HZ.out (Nat.le_refl _)⟩
  have d2 : decide (x < i) = false := decide_eq_false c2
  have HF : Hid (cptB l i = true) := by show _ = _; rw [HB.out, decide_eq_true (by omega), decide_eq_true (by omega)]; rfl
  have hmn : min l.app l.sur = x := hx.symm
  have hkk : (cptK l i : Int) = i - l.ix - 1 := by unfold cptK; omega
  have hkn : cptK l i < l.n := by omega
  have HAT : Hid (atN (pts es) i = cptK l i) := by show _ = _; rw [HV.out.ok.at]; omega
  obtain ⟨k, hk⟩ : ∃ k, k = cptK l i := ⟨_, rfl⟩
  rw [← hk] at hkn HAT
  have HK := Lib.hid hk
  clear hkk hk
  have hx1 : i ≤ 2199023256552 := by omega
  clear c1 c2 hx
  obtain ⟨C, HC0, HCC, HL0, HL4, HL5, HCM, hcl⟩ : ∃ C : World → Prop, Hid (C w.drew) ∧ Hid (∀ W, C W → Below w.heap.size w W) ∧ Hid (∀ W, C W → W.cell? ⟨b, 0, none⟩ = some (.int .i64 l.ix)) ∧ Hid (∀ W, C W → W.cell? ⟨b, 4, none⟩ = some (.int .i64 l.app)) ∧ Hid (∀ W, C W → W.cell? ⟨b, 5, none⟩ = some (.int .i64 l.sur)) ∧ Hid (∀ W, C W → Calls Try.prog 41 #[.pointer (some ⟨b, 0, none⟩)] W fun e w' => e = .returned (.bool true) ∧ C w') ∧ (∀ q : Prop, (∀ W, C W → q) ↔ q) :=
    ⟨fun W => Below w.heap.size w W, (Below.refl _ _).drew, fun _ h => h, KL0.out, KL4.out, KL5.out, KCM.out, fun q => ⟨fun h => h _ (Below.refl _ _), fun h _ _ => h⟩⟩
  clear KL0 KL4 KL5 KCM
  refine wp_region_class C (by kernel_rfl) (by kernel_rfl) HC0.out ?_
  repeat (first
    | go_big_quiet_skip
    | (go_big_quiet_want
       first
       | (refine quiet_load 3 _ ⟨b, 0, none⟩ (.int .i64 l.ix) rfl rfl HL0.out ?_; try simp only [Act.put, List.setIfInBounds_toArray, List.set_cons_zero, List.set_cons_succ]; go_big_quiet_on)
       | (refine quiet_load 3 _ ⟨b, 4, none⟩ (.int .i64 l.app) rfl rfl HL4.out ?_; try simp only [Act.put, List.setIfInBounds_toArray, List.set_cons_zero, List.set_cons_succ]; go_big_quiet_on)
       | (refine quiet_load 3 _ ⟨b, 5, none⟩ (.int .i64 l.sur) rfl rfl HL5.out ?_; try simp only [Act.put, List.setIfInBounds_toArray, List.set_cons_zero, List.set_cons_succ]; go_big_quiet_on)
       | (go_big_quiet_op
          first
          | go_big_quiet_on
          | (apply Exists.intro
             refine ⟨?_, ?_⟩
             · exact HCM.out
             go_big_quiet_on))))
  refine wpQuiet_nil ?_
  intro wz hz
  have HZ := Lib.hid (HCC.out wz hz)
  clear hz HC0 HCC hcl HL0 HL4 HL5 HCM
  clear d1 d2 hmn
  have G1 := Lib.hid (HG.out.below (Nat.le_refl _) HZ.out)
  go_wp2_with fail
  refine (at_any b l (pts es) i _ G1.out.lb G1.out.ep HV.out.ok.small HV.out.ok.up).mono ?_
  rintro e w2 ⟨rfl, hb⟩
  rw [HAT.out]
  have L2 := Lib.hid (HZ.out.trans (hb.mono HZ.out.size))
  have G2 := Lib.hid (G1.out.below (Nat.le_refl _) hb)
  clear hb HG G1 HZ HAT
  have c2 := G2.out.lb.c2
  have f0 := G2.out.lb.frozen 0
  have f1 := G2.out.lb.frozen 1
  have e1 := G2.out.lb.c1
  have e0 := G2.out.lb.c0
  obtain ⟨bb, off, ea, hrow⟩ := G2.out.er.row hkn
  have q1 := hrow 1 (by omega)
  simp only [List.getD_cons_zero, List.getD_cons_succ] at q1
  rw [ea] at c2
  have hne : bb ≠ b := G2.out.ne (by rw [gOf, ea]; rfl)
  generalize ht : (es.getD k default).t = t at *
  have HT := Lib.hid ht
  have K2 : Hid (Kept (· = b) w w2) := Kept.of L2.out (Nat.le_refl _)
  have G3 := Lib.hid (G2.out.set (G2.out.lb.s0 i) rfl rfl rfl)
  have G4 := Lib.hid (G3.out.set (G3.out.lb.s1 t) rfl rfl rfl)
  have K4 : Hid (Kept (· = b) w ((w2.setCell ⟨b, 0, none⟩ (.int .i64 i)).setCell ⟨b, 1, none⟩ (.int .i64 t))) := (K2.out.setCell (p := ⟨b, 0, none⟩) rfl _).setCell (p := ⟨b, 1, none⟩) rfl _
  have hkn' : (k : Nat) < l.n := hkn
  clear hrow ht
  go_upto_region 5 with fail
  clear c2 f0 f1 e0 e1 q1 G3 K2
  have HSZ : Hid (w.heap.size ≤ ((w2.setCell ⟨b, 0, none⟩ (.int .i64 i)).setCell ⟨b, 1, none⟩ (.int .i64 t)).heap.size) := K4.out.size
  clear L2 G2
  generalize (w2.setCell ⟨b, 0, none⟩ (.int .i64 i)).setCell ⟨b, 1, none⟩ (.int .i64 t) = w4 at *
  have c2 := G4.out.lb.c2
  dsimp only at c2
  obtain ⟨a2, cc2, hsl, her⟩ := slice_from G4.out (k := k + 1) hkn
  dsimp only at hsl her
  have hsl2 : ∀ W, (Instr.slice 22 (.slice l.a l.n l.c) (some (.int .i64 ((k : Int) + 1))) none none).run Try.prog W = .ok (.slice a2 (l.n - (k + 1)) cc2) W := fun W => by
    have := hsl W
    rwa [show ((k + 1 : Nat) : Int) = (k : Int) + 1 by omega] at this
  have hkw : IntKind.i64.wrap ((k : Int) + 1) = (k : Int) + 1 := IntWalk.i64_in _ (by omega)
  have HER := Lib.hid her
  clear hsl her ea hne hkn'
  go_wp2_with fail
  refine (clone_own a2 (l.n - (k + 1)) cc2 _ _ HER.out (by omega)).mono ?_
  rintro e w5 ⟨a5, c5, rfl, ho5, hb5⟩
  have G5 := Lib.hid (G4.out.below (Nat.le_refl _) hb5)
  have K5 := Lib.hid (K4.out.trans (Kept.of hb5 (Nat.le_refl _)))
  have HO5 := Lib.hid ho5
  have hbs := G4.out.lb.lt
  clear ho5 hb5 c2 hsl2 G4 K4
  have c2 := G5.out.lb.c2
  have f2 := G5.out.lb.frozen 2
  dsimp only at c2
  go_wp2_with fail
  go_ret
  refine .inr ⟨HF.out, rfl, K5.out.setCell (p := ⟨b, 2, none⟩) rfl _, a5, c5, ?_, ?_⟩
  · rw [← HK.out, HT.out]
    refine ⟨G5.out.lb.s2 a5 (l.n - (k + 1)) c5, ?_, G5.out.mb⟩
    have h1 : w4.heap.size ≤ w4.heap.size := Nat.le_refl _
    refine own_raise (own_set HO5.out ⟨b, 2, none⟩ _ (fun hh => ?_)) (fun j hj => ?_)
    · have := (HO5.out.lt _ hh).1
      exact absurd this (Nat.not_le_of_lt hbs)
    · have := (HO5.out.lt _ hj).1
      have := G5.out.mb
      omega
  · rw [← HK.out]
    intro j hj
    have := (HO5.out.lt _ hj).1
    have := HSZ.out
    omega
end Go.Proofs.Ytbgfpmnicpmieaa
