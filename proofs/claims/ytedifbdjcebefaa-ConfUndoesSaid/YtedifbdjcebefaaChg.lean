/- One member's change: the code's. -/
import Derived.Test.YtedifbdjcebefaaWi
import Derived.Test.YtedifbdjcebefaaSmall
import Derived.BigQuiet
import Derived.Deep.RegionHeld3
namespace Go.Proofs.Ytedifbdjcebefaa
open Go Go.RowKit Go.Shelf Go.Sort
set_option linter.unusedVariables false
set_option linter.unusedSimpArgs false
set_option maxRecDepth 100000
set_option maxHeartbeats 2000000
/-- The box of the argument, and the cell of the result. -/
abbrev cw (w : World) (v u : Value) : World := (w.alloc (.cells #[v, u] 24)).alloc (.cells #[.slice none 0 0, .slice none 0 0] 24)
theorem cw_a (w : World) (v u : Value) : CB (cw w v u) w.heap.size v u := (CB.new w _ _).below (Nat.le_refl _) ((Below.refl _ _).alloc (Nat.le_refl _) _)
theorem cw_b (w : World) (v u : Value) : CB (cw w v u) (w.heap.size + 1) nilS nilS := by
  have := CB.new (w.alloc (.cells #[v, u] 24)) nilS nilS
  rw [show (w.alloc (.cells #[v, u] 24)).heap.size = w.heap.size + 1 by simp] at this
  exact this
theorem cw_below (w : World) (v u : Value) : Below w.heap.size w (cw w v u) := ((Below.refl _ w).alloc (by simp) _).alloc (by simp) _
theorem Rd.drewN {w : World} {a : Option Addr} {n : Nat} {l : List Int} (h : Rd w a n l) (q : Nat) : Rd (w.drewN q) a n l := h
theorem chas_q (a : Option Addr) (n c : Nat) (l : List Int) (x : Int) (w : World) (q : Nat) (hR : Rd w a n l) (hb : n ≤ 1000) : Calls Try.prog 19 #[.slice a n c, .int .i64 x] (w.drewN q) fun e w' => e = .returned (.bool (bI l x)) ∧ ∃ m, w' = w.drewN m :=
  (chas_any a n c l x _ (hR.drewN q) hb).mono fun _ _ ⟨he, hm⟩ => ⟨he, q, hm.symm⟩
theorem without_from (w2 : World) (a : Option Addr) (n c : Nat) (l : List Int) (x : Int) (W : World) (hR : Rd w2 a n l) (hn : n ≤ 1000) (hW : Below w2.heap.size w2 W) :
    Calls Try.prog 23 #[.slice a n c, .int .i64 x] W fun e w' => ∃ a' n' c', e = .returned (.slice a' n' c') ∧ Rd w' a' n' (woL l x) ∧ Below w2.heap.size w2 w' ∧ Below W.heap.size W w' :=
  (without_any a n c l x W (hR.keep (Nat.le_refl _) hW) hn).mono fun e w' ⟨a', n', c', he, hr, hb⟩ => ⟨a', n', c', he, hr, hW.trans (hb.mono hW.size), hb⟩
theorem Rd.store {w : World} {a : Option Addr} {n : Nat} {l : List Int} {bk : Nat} {a1 a2 : Option Addr} {n1 c1 n2 c2 : Nat} (h : Rd w a n l) (hC : CB w bk (.slice a1 n1 c1) (.slice a2 n2 c2)) (i : Nat) (x : Value) : Rd (w.setCell ⟨bk, i, none⟩ x) a n l := by
  refine ⟨h.1, ?_⟩
  rcases h.2 with h0 | ⟨b, off, e, hc⟩
  · exact .inl h0
  · refine .inr ⟨b, off, e, fun j hj => ?_⟩
    have hj' := hc j hj
    by_cases hb : b = bk
    · exfalso
      subst hb
      unfold CB at hC
      simp only [World.cell?, hC] at hj'
      rcases Nat.lt_or_ge (off + j) 2 with h2 | h2
      · rcases (show off + j = 0 ∨ off + j = 1 by omega) with h3 | h3 <;> rw [h3] at hj' <;> simp at hj'
      · rw [Array.getElem?_eq_none (by simpa using h2)] at hj'
        cases hj'
    · rw [World.cell?_setCell_other _ _ _ _ (by intro h; cases h; exact hb rfl)]
      exact hj'
theorem fin_stores {W : World} {bk : Nat} {a1 a2 : Option Addr} {n1 c1 n2 c2 : Nat} {X Y : List Int} (hC : CB W bk nilS nilS) (h1 : Rd W a1 n1 X) (h2 : Rd W a2 n2 Y) :
    CB ((W.setCell ⟨bk, 0, none⟩ (.slice a1 n1 c1)).setCell ⟨bk, 1, none⟩ (.slice a2 n2 c2)) bk (.slice a1 n1 c1) (.slice a2 n2 c2) ∧ Rd ((W.setCell ⟨bk, 0, none⟩ (.slice a1 n1 c1)).setCell ⟨bk, 1, none⟩ (.slice a2 n2 c2)) a1 n1 X ∧ Rd ((W.setCell ⟨bk, 0, none⟩ (.slice a1 n1 c1)).setCell ⟨bk, 1, none⟩ (.slice a2 n2 c2)) a2 n2 Y :=
  ⟨(hC.s0 _).s1 _, (h1.store hC _ _).store (hC.s0 _) _ _, (h2.store hC _ _).store (hC.s0 _) _ _⟩
theorem CB.newd (w : World) (v u : Value) : CB ((w.alloc (.cells #[v, u] 24)).drew) w.heap.size v u := CB.new w v u
theorem held_below {A B : Prop} {m : Nat} {w W : World} (h : A ∧ B ∧ Below m w W) : Below m w W := h.2.2
theorem pw_of_up {l : List Int} : ∀ k, k ≤ l.length → upB l k = true → (l.take k).Pairwise (· < ·) ∧ ∀ y ∈ l.take k, 1 ≤ y ∧ y ≤ 9
  | 0, _, _ => by simp
  | k + 1, hk, h => by
    rw [upB_succ, Bool.and_eq_true] at h
    obtain ⟨i1, i2⟩ := pw_of_up k (by omega) h.1
    have h2 := h.2
    simp only [okB, Bool.and_eq_true, Bool.or_eq_true, decide_eq_true_eq, beq_iff_eq] at h2
    obtain ⟨⟨h3, h4⟩, h5⟩ := h2
    rw [take_snoc l k (by omega)]
    constructor
    · rw [List.pairwise_append]
      refine ⟨i1, by simp, fun x hx y hy => ?_⟩
      rw [List.mem_singleton] at hy
      subst hy
      rcases h5 with rfl | h5
      · simp at hx
      · rcases Nat.eq_zero_or_pos k with rfl | hk0
        · simp at hx
        · obtain ⟨m, rfl⟩ : ∃ m, k = m + 1 := ⟨k - 1, by omega⟩
          rw [take_snoc l m (by omega)] at hx i1
          rw [List.pairwise_append] at i1
          simp only [Nat.add_sub_cancel] at h5
          rcases List.mem_append.1 hx with hx | hx
          · have := i1.2.2 x hx (l.getD m 0) (List.mem_singleton_self _)
            exact Int.lt_trans this h5
          · rw [List.mem_singleton] at hx; rw [hx]; exact h5
    · intro y hy
      rcases List.mem_append.1 hy with hy | hy
      · exact i2 y hy
      · rw [List.mem_singleton] at hy; rw [hy]; exact ⟨h3, h4⟩
theorem rises_pw {l : List Int} (h : risesB l = true) : l.Pairwise (· < ·) ∧ ∀ y ∈ l, 1 ≤ y ∧ y ≤ 9 := by
  have := pw_of_up l.length (Nat.le_refl _) h
  rwa [List.take_length] at this
theorem good_parts {V L : List Int} (h : goodB V L = true) : V ≠ [] ∧ risesB V = true ∧ risesB L = true ∧ meetB V L = false := by
  simp only [goodB, Bool.and_eq_true, decide_eq_true_eq, Bool.not_eq_true'] at h
  exact ⟨h.1.1.1, h.1.1.2, h.1.2, h.2⟩
theorem woL_le {l : List Int} (h : risesB l = true) (x : Int) : (woL l x).Pairwise (· ≤ ·) :=
  List.Pairwise.imp (fun h => Int.le_of_lt h) ((rises_pw h).1.sublist List.filter_sublist)
def withL (l : List Int) (x : Int) : List Int := inL l (l.countP (· < x)) x
/-- What the code's Change hands back. -/
def errC (V L : List Int) (kind node : Int) : Int :=
  if goodB V L = false ∨ node < 1 ∨ 9 < node then 2
  else if kind = 1 ∨ kind = 2 then (if bI V node || bI L node then 5 else 0)
  else if kind = 3 then (if bI L node then 0 else 4)
  else if kind = 4 then (if bI V node || bI L node then (if woL V node = [] then 2 else 0) else 4)
  else 2
def outV (V L : List Int) (kind node : Int) : List Int := if errC V L kind node = 0 then (if kind = 1 ∨ kind = 3 then withL (woL V node) node else woL V node) else []
def outL (V L : List Int) (kind node : Int) : List Int := if errC V L kind node = 0 then (if kind = 2 then withL (woL L node) node else woL L node) else []
def Got (w : World) (X Y : List Int) (err : Int) (e : Ending) (w' : World) : Prop := ∃ (a1 : Option Addr) (n1 c1 : Nat) (a2 : Option Addr) (n2 c2 : Nat), e = .returned (.tuple #[.agg #[.slice a1 n1 c1, .slice a2 n2 c2], .int .i64 err]) ∧ Rd w' a1 n1 X ∧ Rd w' a2 n2 Y ∧ Below w.heap.size w w'
theorem chg_good (a : Option Addr) (n c : Nat) (V : List Int) (b : Option Addr) (m d : Nat) (L : List Int) (kind node : Int) (w : World) (hV : Rd w a n V) (hL : Rd w b m L) (hn : n ≤ 1000) (hm : m ≤ 1000)
    (hg : goodB V L = true) (h1 : 1 ≤ node) (h9 : node ≤ 9) :
    Calls Try.prog 10 #[.agg #[.slice a n c, .slice b m d], .int .i64 kind, .int .i64 node] w (Got w (outV V L kind node) (outL V L kind node) (errC V L kind node)) := by
  have L0 := Lib.hid (cw_below w (.slice a n c) (.slice b m d))
  have CA := Lib.hid (cw_a w (.slice a n c) (.slice b m d))
  have CR := Lib.hid (cw_b w (.slice a n c) (.slice b m d))
  have R1 := Lib.hid (hV.keep (Nat.le_refl _) L0.out)
  have R2 := Lib.hid (hL.keep (Nat.le_refl _) L0.out)
  have HG := Lib.hid hg
  have hca := CA.out.c0
  have hcb := CA.out.c1
  clear hV hL hg
  have hd1 : decide (node < 1) = false := decide_eq_false (by omega)
  have hd9 : decide (9 < node) = false := decide_eq_false (by omega)
  go_enter Try.func10, Try.ntmps10
  go_wp2_with fail
  refine (good_any a n c V b m d L _ R1.out R2.out (by omega) (by omega)).mono ?_
  rintro e w1 ⟨rfl, hb⟩
  rw [HG.out]
  have L1 := Lib.hid (L0.out.trans (hb.mono L0.out.size))
  have CA1 := Lib.hid (CA.out.below (Nat.le_refl _) hb)
  have CR1 := Lib.hid (CR.out.below (Nat.le_refl _) hb)
  have S1 := Lib.hid (R1.out.keep (Nat.le_refl _) hb)
  have S2 := Lib.hid (R2.out.keep (Nat.le_refl _) hb)
  clear hb R1 R2 CA CR L0 hca hcb
  have hca := CA1.out.c0
  have hcb := CA1.out.c1
  go_upto_region 3 with fail
  go_quiet ((go_at_call 19; first | exact chas_q a n c V node _ _ S1.out hn | exact chas_q b m d L node _ _ S2.out hm))
  have L2 : Hid (Below w.heap.size w (w1.drewN nq)) := below_drewN' L1.out nq
  have CA2 : Hid (CB (w1.drewN nq) w.heap.size (.slice a n c) (.slice b m d)) := CA1.out
  have CR2 : Hid (CB (w1.drewN nq) (w.heap.size + 1) nilS nilS) := CR1.out
  have T1 : Hid (Rd (w1.drewN nq) a n V) := S1.out
  have T2 : Hid (Rd (w1.drewN nq) b m L) := S2.out
  generalize w1.drewN nq = w2 at *
  clear L1 CA1 CR1 S1 S2 hca hcb
  have hca := CA2.out.c0
  have hcb := CA2.out.c1
  go_upto_region 4 with fail
  go_cut [10] (fun p wx => ∃ (bk : Nat) (a1 : Option Addr) (n1 c1 : Nat) (a2 : Option Addr) (n2 c2 : Nat), p = .pointer (some ⟨bk, 0, none⟩) ∧ CB wx bk (.slice a1 n1 c1) (.slice a2 n2 c2) ∧ Rd wx a1 n1 (woL V node) ∧ Rd wx a2 n2 (woL L node) ∧ w2.heap.size ≤ bk ∧ Below w2.heap.size w2 wx)
  case first =>
    have kS : ∀ W, Below w2.heap.size w2 W → W.cell? ⟨w.heap.size, 0, none⟩ = some (.slice a n c) ∧ W.cell? ⟨w.heap.size, 1, none⟩ = some (.slice b m d) ∧ Below w2.heap.size w2 W := fun W h => ⟨(CA2.out.below (Nat.le_refl _) h).c0, (CA2.out.below (Nat.le_refl _) h).c1, h⟩
    have HS := Lib.hid kS
    clear kS
    go_region_held3 (fun W => W.cell? ⟨w.heap.size, 0, none⟩ = some (.slice a n c) ∧ W.cell? ⟨w.heap.size, 1, none⟩ = some (.slice b m d) ∧ Below w2.heap.size w2 W)
      (first | exact HS.out _ (Below.refl _ _) | exact HS.out _ (by repeat (first | exact Below.refl _ _ | assumption | exact held_below (by assumption) | refine Below.drew ?_ | refine Below.alloc ?_ (by first | exact Nat.le_refl _ | exact hB2.size | exact hB1.size | exact (held_below (by assumption)).size) _ | refine Below.setCell ?_ (by first | exact Nat.le_refl _ | exact hB1.size | exact hB2.size) _)))
      (first
        | (go_at_call_of 23 (Value.slice a n c); (refine (without_from w2 a n c V node _ T1.out hn (held_below (by assumption))).mono ?_; rintro e W1 ⟨a1, n1, c1, rfl, hr1, hB1, hb1⟩; first | (with_reducible have k1 := (CB.newd _ nilS nilS).below (Nat.le_refl _) hb1) | (with_reducible have k1 := (CB.new _ nilS nilS).below (Nat.le_refl _) hb1) | skip))
        | (go_at_call_of 23 (Value.slice b m d); (refine (without_from w2 b m d L node _ T2.out hm (held_below (by assumption))).mono ?_; rintro e W2 ⟨a2, n2, c2, rfl, hr2, hB2, hb2⟩; first | (have k2 : CB W2 w2.heap.size nilS nilS := k1.below (Nat.le_refl _) hb2; have k20 := k2.c0; have k21 := k2.c1; have k2f := k2.frozen 0; have k2g := k2.frozen 1) | (with_reducible have k2 := (CB.new _ nilS nilS).below (Nat.le_refl _) hb2; have k20 := k2.c0; have k21 := k2.c1; have k2f := k2.frozen 0; have k2g := k2.frozen 1) | skip)))
    all_goals rename_i hHeld
    all_goals have HH := Lib.hid (held_below hHeld)
    all_goals clear hHeld
    · have q1 := hr1.keep (Nat.le_refl _) hb2
      have Q1 := Lib.hid (q1.keep (Nat.le_refl _) ((Below.refl _ _).alloc (Nat.le_refl _) (.cells #[.slice a1 n1 c1, .slice a2 n2 c2] 24)))
      have Q2 := Lib.hid (hr2.keep (Nat.le_refl _) ((Below.refl _ _).alloc (Nat.le_refl _) (.cells #[.slice a1 n1 c1, .slice a2 n2 c2] 24)))
      have Z := Lib.hid hB2.size
      clear hb1 hb2 hB1 hB2 hr1 hr2 q1
      go_wp2_with fail
      go_meet
      exact ⟨_, a1, n1, c1, a2, n2, c2, rfl, CB.new _ _ _, Q1.out, Q2.out, Z.out, HH.out⟩
    · have q1 := (hr1.keep (Nat.le_refl _) ((Below.refl _ _).alloc (Nat.le_refl _) _)).keep (Nat.le_refl _) hb2
      have Q1 := Lib.hid (fin_stores (c1 := c1) (c2 := c2) k2 q1 hr2)
      have Z := Lib.hid hB1.size
      clear hb1 hb2 hB1 hB2 hr1 hr2 q1 k2 k20 k21 k2f k2g
      go_wp2_with fail
      go_meet
      exact ⟨_, a1, n1, c1, a2, n2, c2, rfl, Q1.out.1, Q1.out.2.1, Q1.out.2.2, Z.out, HH.out⟩
    · have q1 := hr1.keep (Nat.le_refl _) hb2
      have Q1 := Lib.hid (fin_stores (c1 := c1) (c2 := c2) k2 q1 hr2)
      clear hb1 hb2 hB1 hB2 hr1 hr2 q1 k1 k2 k20 k21 k2f k2g
      go_wp2_with fail
      go_meet
      exact ⟨_, a1, n1, c1, a2, n2, c2, rfl, Q1.out.1, Q1.out.2.1, Q1.out.2.2, Nat.le_refl _, HH.out⟩
  case rest =>
    obtain ⟨bk, a1, n1, c1, a2, n2, c2, rfl, hC, hr1, hr2, hbk, hbw⟩ := hcut
    have hp := good_parts HG.out
    have P1 := Lib.hid (woL_le hp.2.1 node)
    have P2 := Lib.hid (woL_le hp.2.2.1 node)
    have N1 : Hid (n1 ≤ 1000) := by
      show _ ≤ _
      have := woL_len V node; have := hr1.1; have := T1.out.1; omega
    have N2 : Hid (n2 ≤ 1000) := by
      show _ ≤ _
      have := woL_len L node; have := hr2.1; have := T2.out.1; omega
    have CC := Lib.hid hC
    have CRc := Lib.hid (CR2.out.below (Nat.le_refl _) hbw)
    have LB := Lib.hid (L2.out.trans (hbw.mono L2.out.size))
    have Q1 := Lib.hid hr1
    have Q2 := Lib.hid hr2
    have HE : Hid (errC V L kind node = if goodB V L = false ∨ node < 1 ∨ 9 < node then 2
      else if kind = 1 ∨ kind = 2 then (if bI V node || bI L node then 5 else 0)
      else if kind = 3 then (if bI L node then 0 else 4)
      else if kind = 4 then (if bI V node || bI L node then (if woL V node = [] then 2 else 0) else 4)
      else 2) := rfl
    have HO1 : Hid (outV V L kind node = if errC V L kind node = 0 then (if kind = 1 ∨ kind = 3 then withL (woL V node) node else woL V node) else []) := rfl
    have HO2 : Hid (outL V L kind node = if errC V L kind node = 0 then (if kind = 2 then withL (woL L node) node else woL L node) else []) := rfl
    have HX : Hid ((goodB V L = false ∨ node < 1 ∨ 9 < node) = False) := by
      show _ = _
      rw [HG.out]; simp; omega
    have HNE : Hid (w.heap.size + 1 ≠ bk) := by
      show _ ≠ _
      have := CR2.out.lt; omega
    have HBK : Hid (w.heap.size ≤ bk) := by
      show _ ≤ _
      have := L2.out.size; omega
    have r0 := CRc.out.c0
    have r1 := CRc.out.c1
    have rf0 := CRc.out.frozen 0
    have rf1 := CRc.out.frozen 1
    have b0 := hC.c0
    have b1 := hC.c1
    have bf0 := hC.frozen 0
    have bf1 := hC.frozen 1
    generalize bI V node = v at *
    generalize bI L node = l at *
    clear hC hr1 hr2 hbk hbw hp hca hcb T1 T2 CA2 CR2 HG L2
    by_cases k1 : kind = 1
    · subst k1
      rcases (show (v = true ∨ (v = false ∧ l = true)) ∨ (v = false ∧ l = false) by cases v <;> cases l <;> simp) with hvl | ⟨rfl, rfl⟩
      · rcases hvl with rfl | ⟨rfl, rfl⟩
        · have E : Hid (errC V L 1 node = 5) := by
            show _ = _
            rw [HE.out, if_neg (by rw [HX.out]; exact id)]
            simp
          have O1 : Hid (outV V L 1 node = []) := by
            show _ = _
            rw [HO1.out, E.out]; rfl
          have O2 : Hid (outL V L 1 node = []) := by
            show _ = _
            rw [HO2.out, E.out]; rfl
          clear HO1 HO2 HE HX CC Q1 Q2
          have CZ := Lib.hid ((CRc.out.s0 nilS).s1 nilS)
          have BZ : Hid (Below w.heap.size w ((wc.setCell ⟨w.heap.size + 1, 0, none⟩ nilS).setCell ⟨w.heap.size + 1, 1, none⟩ nilS)) := (LB.out.setCell (p := ⟨w.heap.size + 1, 0, none⟩) (Nat.le_succ _) _).setCell (p := ⟨w.heap.size + 1, 1, none⟩) (Nat.le_succ _) _
          go_wp2_with fail
          generalize ((wc.setCell ⟨w.heap.size + 1, 0, none⟩ nilS).setCell ⟨w.heap.size + 1, 1, none⟩ nilS) = wz at *
          have f0 := CZ.out.c0
          have f1 := CZ.out.c1
          refine bodyPost_ret (v := .tuple #[.agg #[.slice none 0 0, .slice none 0 0], .int .i64 5]) (by simp [results, Try.results10, go_sem, f0, f1]) rfl ⟨none, 0, 0, none, 0, 0, by rw [E.out], by rw [O1.out]; exact ⟨rfl, .inl rfl⟩, by rw [O2.out]; exact ⟨rfl, .inl rfl⟩, BZ.out⟩
        · have E : Hid (errC V L 1 node = 5) := by
            show _ = _
            rw [HE.out, if_neg (by rw [HX.out]; exact id)]
            simp
          have O1 : Hid (outV V L 1 node = []) := by
            show _ = _
            rw [HO1.out, E.out]; rfl
          have O2 : Hid (outL V L 1 node = []) := by
            show _ = _
            rw [HO2.out, E.out]; rfl
          clear HO1 HO2 HE HX CC Q1 Q2
          have CZ := Lib.hid ((CRc.out.s0 nilS).s1 nilS)
          have BZ : Hid (Below w.heap.size w ((wc.setCell ⟨w.heap.size + 1, 0, none⟩ nilS).setCell ⟨w.heap.size + 1, 1, none⟩ nilS)) := (LB.out.setCell (p := ⟨w.heap.size + 1, 0, none⟩) (Nat.le_succ _) _).setCell (p := ⟨w.heap.size + 1, 1, none⟩) (Nat.le_succ _) _
          go_wp2_with fail
          generalize ((wc.setCell ⟨w.heap.size + 1, 0, none⟩ nilS).setCell ⟨w.heap.size + 1, 1, none⟩ nilS) = wz at *
          have f0 := CZ.out.c0
          have f1 := CZ.out.c1
          refine bodyPost_ret (v := .tuple #[.agg #[.slice none 0 0, .slice none 0 0], .int .i64 5]) (by simp [results, Try.results10, go_sem, f0, f1]) rfl ⟨none, 0, 0, none, 0, 0, by rw [E.out], by rw [O1.out]; exact ⟨rfl, .inl rfl⟩, by rw [O2.out]; exact ⟨rfl, .inl rfl⟩, BZ.out⟩
      · have E : Hid (errC V L 1 node = 0) := by
          show _ = _
          rw [HE.out, if_neg (by rw [HX.out]; exact id)]
          simp
        have O1 : Hid (outV V L 1 node = withL (woL V node) node) := by
          show _ = _
          rw [HO1.out, E.out]; rfl
        have O2 : Hid (outL V L 1 node = woL L node) := by
          show _ = _
          rw [HO2.out, E.out]; rfl
        clear HO1 HO2 HE HX
        go_wp2_with fail
        refine (with_any a1 n1 c1 (woL V node) node _ Q1.out N1.out P1.out).mono ?_
        rintro e w3 ⟨a3, n3, c3, rfl, hr3, hb3⟩
        have C3 := Lib.hid (CC.out.below (Nat.le_refl _) hb3)
        have R3 := Lib.hid (CRc.out.below (Nat.le_refl _) hb3)
        have B3 := Lib.hid (LB.out.trans (hb3.mono LB.out.size))
        have q1 := Q1.out.keep (Nat.le_refl _) hb3
        have q2 := Q2.out.keep (Nat.le_refl _) hb3
        have hne : w.heap.size + 1 ≠ bk := HNE.out
        have D3 := Lib.hid (C3.out.s0 (.slice a3 n3 c3))
        have T3 : Hid (CB (w3.setCell ⟨bk, 0, none⟩ (.slice a3 n3 c3)) (w.heap.size + 1) nilS nilS) := by
          show (w3.setCell ⟨bk, 0, none⟩ (.slice a3 n3 c3)).heap[w.heap.size + 1]? = _
          rw [Below.heap_setCell _ _ _ _ hne]; exact R3.out
        have E3 : Hid (Below w.heap.size w (w3.setCell ⟨bk, 0, none⟩ (.slice a3 n3 c3))) := B3.out.setCell (by have := HBK.out; simp only []; omega) _
        have X1 := Lib.hid (hr3.store C3.out 0 (.slice a3 n3 c3))
        have X2 := Lib.hid (q2.store C3.out 0 (.slice a3 n3 c3))
        clear hr3 hb3 q1 q2 hne b0 b1 bf0 bf1 r0 r1 rf0 rf1
        have b0 := C3.out.c0
        have b1 := C3.out.c1
        have bf0 := C3.out.frozen 0
        have bf1 := C3.out.frozen 1
        go_upto_region 26 with fail
        generalize (w3.setCell ⟨bk, 0, none⟩ (.slice a3 n3 c3)) = w4 at *
        clear b0 b1 bf0 bf1 C3 R3 B3
        have b0 := D3.out.c0
        have b1 := D3.out.c1
        have bf0 := D3.out.frozen 0
        have bf1 := D3.out.frozen 1
        have r0 := T3.out.c0
        have r1 := T3.out.c1
        have rf0 := T3.out.frozen 0
        have rf1 := T3.out.frozen 1
        have FS := Lib.hid (fin_stores (c1 := c3) (c2 := c2) T3.out X1.out X2.out)
        have BZ : Hid (Below w.heap.size w ((w4.setCell ⟨w.heap.size + 1, 0, none⟩ (.slice a3 n3 c3)).setCell ⟨w.heap.size + 1, 1, none⟩ (.slice a2 n2 c2))) := (E3.out.setCell (p := ⟨w.heap.size + 1, 0, none⟩) (Nat.le_succ _) _).setCell (p := ⟨w.heap.size + 1, 1, none⟩) (Nat.le_succ _) _
        go_wp2_with fail
        generalize ((w4.setCell ⟨w.heap.size + 1, 0, none⟩ (.slice a3 n3 c3)).setCell ⟨w.heap.size + 1, 1, none⟩ (.slice a2 n2 c2)) = wz at *
        have f0 := FS.out.1.c0
        have f1 := FS.out.1.c1
        refine bodyPost_ret (v := .tuple #[.agg #[.slice a3 n3 c3, .slice a2 n2 c2], .int .i64 0]) (by simp [results, Try.results10, go_sem, f0, f1]) rfl ⟨a3, n3, c3, a2, n2, c2, by rw [E.out], by rw [O1.out]; exact FS.out.2.1, by rw [O2.out]; exact FS.out.2.2, BZ.out⟩
    by_cases k2 : kind = 2
    · subst k2
      rcases (show (v = true ∨ (v = false ∧ l = true)) ∨ (v = false ∧ l = false) by cases v <;> cases l <;> simp) with hvl | ⟨rfl, rfl⟩
      · rcases hvl with rfl | ⟨rfl, rfl⟩
        · have E : Hid (errC V L 2 node = 5) := by
            show _ = _
            rw [HE.out, if_neg (by rw [HX.out]; exact id)]
            simp
          have O1 : Hid (outV V L 2 node = []) := by
            show _ = _
            rw [HO1.out, E.out]; rfl
          have O2 : Hid (outL V L 2 node = []) := by
            show _ = _
            rw [HO2.out, E.out]; rfl
          clear HO1 HO2 HE HX CC Q1 Q2
          have CZ := Lib.hid ((CRc.out.s0 nilS).s1 nilS)
          have BZ : Hid (Below w.heap.size w ((wc.setCell ⟨w.heap.size + 1, 0, none⟩ nilS).setCell ⟨w.heap.size + 1, 1, none⟩ nilS)) := (LB.out.setCell (p := ⟨w.heap.size + 1, 0, none⟩) (Nat.le_succ _) _).setCell (p := ⟨w.heap.size + 1, 1, none⟩) (Nat.le_succ _) _
          go_wp2_with fail
          generalize ((wc.setCell ⟨w.heap.size + 1, 0, none⟩ nilS).setCell ⟨w.heap.size + 1, 1, none⟩ nilS) = wz at *
          have f0 := CZ.out.c0
          have f1 := CZ.out.c1
          refine bodyPost_ret (v := .tuple #[.agg #[.slice none 0 0, .slice none 0 0], .int .i64 5]) (by simp [results, Try.results10, go_sem, f0, f1]) rfl ⟨none, 0, 0, none, 0, 0, by rw [E.out], by rw [O1.out]; exact ⟨rfl, .inl rfl⟩, by rw [O2.out]; exact ⟨rfl, .inl rfl⟩, BZ.out⟩
        · have E : Hid (errC V L 2 node = 5) := by
            show _ = _
            rw [HE.out, if_neg (by rw [HX.out]; exact id)]
            simp
          have O1 : Hid (outV V L 2 node = []) := by
            show _ = _
            rw [HO1.out, E.out]; rfl
          have O2 : Hid (outL V L 2 node = []) := by
            show _ = _
            rw [HO2.out, E.out]; rfl
          clear HO1 HO2 HE HX CC Q1 Q2
          have CZ := Lib.hid ((CRc.out.s0 nilS).s1 nilS)
          have BZ : Hid (Below w.heap.size w ((wc.setCell ⟨w.heap.size + 1, 0, none⟩ nilS).setCell ⟨w.heap.size + 1, 1, none⟩ nilS)) := (LB.out.setCell (p := ⟨w.heap.size + 1, 0, none⟩) (Nat.le_succ _) _).setCell (p := ⟨w.heap.size + 1, 1, none⟩) (Nat.le_succ _) _
          go_wp2_with fail
          generalize ((wc.setCell ⟨w.heap.size + 1, 0, none⟩ nilS).setCell ⟨w.heap.size + 1, 1, none⟩ nilS) = wz at *
          have f0 := CZ.out.c0
          have f1 := CZ.out.c1
          refine bodyPost_ret (v := .tuple #[.agg #[.slice none 0 0, .slice none 0 0], .int .i64 5]) (by simp [results, Try.results10, go_sem, f0, f1]) rfl ⟨none, 0, 0, none, 0, 0, by rw [E.out], by rw [O1.out]; exact ⟨rfl, .inl rfl⟩, by rw [O2.out]; exact ⟨rfl, .inl rfl⟩, BZ.out⟩
      · have E : Hid (errC V L 2 node = 0) := by
          show _ = _
          rw [HE.out, if_neg (by rw [HX.out]; exact id)]
          simp
        have O1 : Hid (outV V L 2 node = woL V node) := by
          show _ = _
          rw [HO1.out, E.out]; rfl
        have O2 : Hid (outL V L 2 node = withL (woL L node) node) := by
          show _ = _
          rw [HO2.out, E.out]; rfl
        clear HO1 HO2 HE HX
        go_wp2_with fail
        refine (with_any a2 n2 c2 (woL L node) node _ Q2.out N2.out P2.out).mono ?_
        rintro e w3 ⟨a3, n3, c3, rfl, hr3, hb3⟩
        have C3 := Lib.hid (CC.out.below (Nat.le_refl _) hb3)
        have R3 := Lib.hid (CRc.out.below (Nat.le_refl _) hb3)
        have B3 := Lib.hid (LB.out.trans (hb3.mono LB.out.size))
        have q1 := Q1.out.keep (Nat.le_refl _) hb3
        have q2 := Q2.out.keep (Nat.le_refl _) hb3
        have hne : w.heap.size + 1 ≠ bk := HNE.out
        have D3 := Lib.hid (C3.out.s1 (.slice a3 n3 c3))
        have T3 : Hid (CB (w3.setCell ⟨bk, 1, none⟩ (.slice a3 n3 c3)) (w.heap.size + 1) nilS nilS) := by
          show (w3.setCell ⟨bk, 1, none⟩ (.slice a3 n3 c3)).heap[w.heap.size + 1]? = _
          rw [Below.heap_setCell _ _ _ _ hne]; exact R3.out
        have E3 : Hid (Below w.heap.size w (w3.setCell ⟨bk, 1, none⟩ (.slice a3 n3 c3))) := B3.out.setCell (by have := HBK.out; simp only []; omega) _
        have X1 := Lib.hid (q1.store C3.out 1 (.slice a3 n3 c3))
        have X2 := Lib.hid (hr3.store C3.out 1 (.slice a3 n3 c3))
        clear hr3 hb3 q1 q2 hne b0 b1 bf0 bf1 r0 r1 rf0 rf1
        have b0 := C3.out.c0
        have b1 := C3.out.c1
        have bf0 := C3.out.frozen 0
        have bf1 := C3.out.frozen 1
        go_upto_region 26 with fail
        generalize (w3.setCell ⟨bk, 1, none⟩ (.slice a3 n3 c3)) = w4 at *
        clear b0 b1 bf0 bf1 C3 R3 B3
        have b0 := D3.out.c0
        have b1 := D3.out.c1
        have bf0 := D3.out.frozen 0
        have bf1 := D3.out.frozen 1
        have r0 := T3.out.c0
        have r1 := T3.out.c1
        have rf0 := T3.out.frozen 0
        have rf1 := T3.out.frozen 1
        have FS := Lib.hid (fin_stores (c1 := c1) (c2 := c3) T3.out X1.out X2.out)
        have BZ : Hid (Below w.heap.size w ((w4.setCell ⟨w.heap.size + 1, 0, none⟩ (.slice a1 n1 c1)).setCell ⟨w.heap.size + 1, 1, none⟩ (.slice a3 n3 c3))) := (E3.out.setCell (p := ⟨w.heap.size + 1, 0, none⟩) (Nat.le_succ _) _).setCell (p := ⟨w.heap.size + 1, 1, none⟩) (Nat.le_succ _) _
        go_wp2_with fail
        generalize ((w4.setCell ⟨w.heap.size + 1, 0, none⟩ (.slice a1 n1 c1)).setCell ⟨w.heap.size + 1, 1, none⟩ (.slice a3 n3 c3)) = wz at *
        have f0 := FS.out.1.c0
        have f1 := FS.out.1.c1
        refine bodyPost_ret (v := .tuple #[.agg #[.slice a1 n1 c1, .slice a3 n3 c3], .int .i64 0]) (by simp [results, Try.results10, go_sem, f0, f1]) rfl ⟨a1, n1, c1, a3, n3, c3, by rw [E.out], by rw [O1.out]; exact FS.out.2.1, by rw [O2.out]; exact FS.out.2.2, BZ.out⟩
    by_cases k3 : kind = 3
    · subst k3
      cases l
      · have E : Hid (errC V L 3 node = 4) := by
          show _ = _
          rw [HE.out, if_neg (by rw [HX.out]; exact id)]
          simp
        have O1 : Hid (outV V L 3 node = []) := by
          show _ = _
          rw [HO1.out, E.out]; rfl
        have O2 : Hid (outL V L 3 node = []) := by
          show _ = _
          rw [HO2.out, E.out]; rfl
        clear HO1 HO2 HE HX CC Q1 Q2
        have CZ := Lib.hid ((CRc.out.s0 nilS).s1 nilS)
        have BZ : Hid (Below w.heap.size w ((wc.setCell ⟨w.heap.size + 1, 0, none⟩ nilS).setCell ⟨w.heap.size + 1, 1, none⟩ nilS)) := (LB.out.setCell (p := ⟨w.heap.size + 1, 0, none⟩) (Nat.le_succ _) _).setCell (p := ⟨w.heap.size + 1, 1, none⟩) (Nat.le_succ _) _
        go_wp2_with fail
        generalize ((wc.setCell ⟨w.heap.size + 1, 0, none⟩ nilS).setCell ⟨w.heap.size + 1, 1, none⟩ nilS) = wz at *
        have f0 := CZ.out.c0
        have f1 := CZ.out.c1
        refine bodyPost_ret (v := .tuple #[.agg #[.slice none 0 0, .slice none 0 0], .int .i64 4]) (by simp [results, Try.results10, go_sem, f0, f1]) rfl ⟨none, 0, 0, none, 0, 0, by rw [E.out], by rw [O1.out]; exact ⟨rfl, .inl rfl⟩, by rw [O2.out]; exact ⟨rfl, .inl rfl⟩, BZ.out⟩
      · have E : Hid (errC V L 3 node = 0) := by
          show _ = _
          rw [HE.out, if_neg (by rw [HX.out]; exact id)]
          simp
        have O1 : Hid (outV V L 3 node = withL (woL V node) node) := by
          show _ = _
          rw [HO1.out, E.out]; rfl
        have O2 : Hid (outL V L 3 node = woL L node) := by
          show _ = _
          rw [HO2.out, E.out]; rfl
        clear HO1 HO2 HE HX
        go_wp2_with fail
        refine (with_any a1 n1 c1 (woL V node) node _ Q1.out N1.out P1.out).mono ?_
        rintro e w3 ⟨a3, n3, c3, rfl, hr3, hb3⟩
        have C3 := Lib.hid (CC.out.below (Nat.le_refl _) hb3)
        have R3 := Lib.hid (CRc.out.below (Nat.le_refl _) hb3)
        have B3 := Lib.hid (LB.out.trans (hb3.mono LB.out.size))
        have q1 := Q1.out.keep (Nat.le_refl _) hb3
        have q2 := Q2.out.keep (Nat.le_refl _) hb3
        have hne : w.heap.size + 1 ≠ bk := HNE.out
        have D3 := Lib.hid (C3.out.s0 (.slice a3 n3 c3))
        have T3 : Hid (CB (w3.setCell ⟨bk, 0, none⟩ (.slice a3 n3 c3)) (w.heap.size + 1) nilS nilS) := by
          show (w3.setCell ⟨bk, 0, none⟩ (.slice a3 n3 c3)).heap[w.heap.size + 1]? = _
          rw [Below.heap_setCell _ _ _ _ hne]; exact R3.out
        have E3 : Hid (Below w.heap.size w (w3.setCell ⟨bk, 0, none⟩ (.slice a3 n3 c3))) := B3.out.setCell (by have := HBK.out; simp only []; omega) _
        have X1 := Lib.hid (hr3.store C3.out 0 (.slice a3 n3 c3))
        have X2 := Lib.hid (q2.store C3.out 0 (.slice a3 n3 c3))
        clear hr3 hb3 q1 q2 hne b0 b1 bf0 bf1 r0 r1 rf0 rf1
        have b0 := C3.out.c0
        have b1 := C3.out.c1
        have bf0 := C3.out.frozen 0
        have bf1 := C3.out.frozen 1
        go_upto_region 26 with fail
        generalize (w3.setCell ⟨bk, 0, none⟩ (.slice a3 n3 c3)) = w4 at *
        clear b0 b1 bf0 bf1 C3 R3 B3
        have b0 := D3.out.c0
        have b1 := D3.out.c1
        have bf0 := D3.out.frozen 0
        have bf1 := D3.out.frozen 1
        have r0 := T3.out.c0
        have r1 := T3.out.c1
        have rf0 := T3.out.frozen 0
        have rf1 := T3.out.frozen 1
        have FS := Lib.hid (fin_stores (c1 := c3) (c2 := c2) T3.out X1.out X2.out)
        have BZ : Hid (Below w.heap.size w ((w4.setCell ⟨w.heap.size + 1, 0, none⟩ (.slice a3 n3 c3)).setCell ⟨w.heap.size + 1, 1, none⟩ (.slice a2 n2 c2))) := (E3.out.setCell (p := ⟨w.heap.size + 1, 0, none⟩) (Nat.le_succ _) _).setCell (p := ⟨w.heap.size + 1, 1, none⟩) (Nat.le_succ _) _
        go_wp2_with fail
        generalize ((w4.setCell ⟨w.heap.size + 1, 0, none⟩ (.slice a3 n3 c3)).setCell ⟨w.heap.size + 1, 1, none⟩ (.slice a2 n2 c2)) = wz at *
        have f0 := FS.out.1.c0
        have f1 := FS.out.1.c1
        refine bodyPost_ret (v := .tuple #[.agg #[.slice a3 n3 c3, .slice a2 n2 c2], .int .i64 0]) (by simp [results, Try.results10, go_sem, f0, f1]) rfl ⟨a3, n3, c3, a2, n2, c2, by rw [E.out], by rw [O1.out]; exact FS.out.2.1, by rw [O2.out]; exact FS.out.2.2, BZ.out⟩
    by_cases k4 : kind = 4
    · subst k4
      rcases (show (v = true ∨ (v = false ∧ l = true)) ∨ (v = false ∧ l = false) by cases v <;> cases l <;> simp) with hvl | ⟨rfl, rfl⟩
      · rcases Nat.eq_zero_or_pos n1 with h0 | h0
        · have hw0 : Hid (woL V node = []) := by
            show _ = _
            exact List.eq_nil_of_length_eq_zero (by rw [Q1.out.1]; exact h0)
          subst h0
          rcases hvl with rfl | ⟨rfl, rfl⟩
          · have E : Hid (errC V L 4 node = 2) := by
              show _ = _
              rw [HE.out, if_neg (by rw [HX.out]; exact id)]
              rw [hw0.out]; simp
            have O1 : Hid (outV V L 4 node = []) := by
              show _ = _
              rw [HO1.out, E.out]; rfl
            have O2 : Hid (outL V L 4 node = []) := by
              show _ = _
              rw [HO2.out, E.out]; rfl
            clear HO1 HO2 HE HX CC Q1 Q2
            have CZ := Lib.hid ((CRc.out.s0 nilS).s1 nilS)
            have BZ : Hid (Below w.heap.size w ((wc.setCell ⟨w.heap.size + 1, 0, none⟩ nilS).setCell ⟨w.heap.size + 1, 1, none⟩ nilS)) := (LB.out.setCell (p := ⟨w.heap.size + 1, 0, none⟩) (Nat.le_succ _) _).setCell (p := ⟨w.heap.size + 1, 1, none⟩) (Nat.le_succ _) _
            go_wp2_with fail
            generalize ((wc.setCell ⟨w.heap.size + 1, 0, none⟩ nilS).setCell ⟨w.heap.size + 1, 1, none⟩ nilS) = wz at *
            have f0 := CZ.out.c0
            have f1 := CZ.out.c1
            refine bodyPost_ret (v := .tuple #[.agg #[.slice none 0 0, .slice none 0 0], .int .i64 2]) (by simp [results, Try.results10, go_sem, f0, f1]) rfl ⟨none, 0, 0, none, 0, 0, by rw [E.out], by rw [O1.out]; exact ⟨rfl, .inl rfl⟩, by rw [O2.out]; exact ⟨rfl, .inl rfl⟩, BZ.out⟩
          · have E : Hid (errC V L 4 node = 2) := by
              show _ = _
              rw [HE.out, if_neg (by rw [HX.out]; exact id)]
              rw [hw0.out]; simp
            have O1 : Hid (outV V L 4 node = []) := by
              show _ = _
              rw [HO1.out, E.out]; rfl
            have O2 : Hid (outL V L 4 node = []) := by
              show _ = _
              rw [HO2.out, E.out]; rfl
            clear HO1 HO2 HE HX CC Q1 Q2
            have CZ := Lib.hid ((CRc.out.s0 nilS).s1 nilS)
            have BZ : Hid (Below w.heap.size w ((wc.setCell ⟨w.heap.size + 1, 0, none⟩ nilS).setCell ⟨w.heap.size + 1, 1, none⟩ nilS)) := (LB.out.setCell (p := ⟨w.heap.size + 1, 0, none⟩) (Nat.le_succ _) _).setCell (p := ⟨w.heap.size + 1, 1, none⟩) (Nat.le_succ _) _
            go_wp2_with fail
            generalize ((wc.setCell ⟨w.heap.size + 1, 0, none⟩ nilS).setCell ⟨w.heap.size + 1, 1, none⟩ nilS) = wz at *
            have f0 := CZ.out.c0
            have f1 := CZ.out.c1
            refine bodyPost_ret (v := .tuple #[.agg #[.slice none 0 0, .slice none 0 0], .int .i64 2]) (by simp [results, Try.results10, go_sem, f0, f1]) rfl ⟨none, 0, 0, none, 0, 0, by rw [E.out], by rw [O1.out]; exact ⟨rfl, .inl rfl⟩, by rw [O2.out]; exact ⟨rfl, .inl rfl⟩, BZ.out⟩
        · have hw0 : Hid (woL V node ≠ []) := by
            show _ ≠ _
            intro h
            have := Q1.out.1
            rw [h] at this; simp at this; omega
          have hz0 : ((n1 : Int) == 0) = false := by simp; omega
          have hz1 : ¬ n1 = 0 := by omega
          rcases hvl with rfl | ⟨rfl, rfl⟩
          · have E : Hid (errC V L 4 node = 0) := by
              show _ = _
              rw [HE.out, if_neg (by rw [HX.out]; exact id)]
              simp [hw0.out]
            have O1 : Hid (outV V L 4 node = woL V node) := by
              show _ = _
              rw [HO1.out, E.out]; rfl
            have O2 : Hid (outL V L 4 node = woL L node) := by
              show _ = _
              rw [HO2.out, E.out]; rfl
            clear HO1 HO2 HE HX
            have FS := Lib.hid (fin_stores (c1 := c1) (c2 := c2) CRc.out Q1.out Q2.out)
            have BZ : Hid (Below w.heap.size w ((wc.setCell ⟨w.heap.size + 1, 0, none⟩ (.slice a1 n1 c1)).setCell ⟨w.heap.size + 1, 1, none⟩ (.slice a2 n2 c2))) := (LB.out.setCell (p := ⟨w.heap.size + 1, 0, none⟩) (Nat.le_succ _) _).setCell (p := ⟨w.heap.size + 1, 1, none⟩) (Nat.le_succ _) _
            go_wp2_with fail
            generalize ((wc.setCell ⟨w.heap.size + 1, 0, none⟩ (.slice a1 n1 c1)).setCell ⟨w.heap.size + 1, 1, none⟩ (.slice a2 n2 c2)) = wz at *
            have f0 := FS.out.1.c0
            have f1 := FS.out.1.c1
            refine bodyPost_ret (v := .tuple #[.agg #[.slice a1 n1 c1, .slice a2 n2 c2], .int .i64 0]) (by simp [results, Try.results10, go_sem, f0, f1]) rfl ⟨a1, n1, c1, a2, n2, c2, by rw [E.out], by rw [O1.out]; exact FS.out.2.1, by rw [O2.out]; exact FS.out.2.2, BZ.out⟩
          · have E : Hid (errC V L 4 node = 0) := by
              show _ = _
              rw [HE.out, if_neg (by rw [HX.out]; exact id)]
              simp [hw0.out]
            have O1 : Hid (outV V L 4 node = woL V node) := by
              show _ = _
              rw [HO1.out, E.out]; rfl
            have O2 : Hid (outL V L 4 node = woL L node) := by
              show _ = _
              rw [HO2.out, E.out]; rfl
            clear HO1 HO2 HE HX
            have FS := Lib.hid (fin_stores (c1 := c1) (c2 := c2) CRc.out Q1.out Q2.out)
            have BZ : Hid (Below w.heap.size w ((wc.setCell ⟨w.heap.size + 1, 0, none⟩ (.slice a1 n1 c1)).setCell ⟨w.heap.size + 1, 1, none⟩ (.slice a2 n2 c2))) := (LB.out.setCell (p := ⟨w.heap.size + 1, 0, none⟩) (Nat.le_succ _) _).setCell (p := ⟨w.heap.size + 1, 1, none⟩) (Nat.le_succ _) _
            go_wp2_with fail
            generalize ((wc.setCell ⟨w.heap.size + 1, 0, none⟩ (.slice a1 n1 c1)).setCell ⟨w.heap.size + 1, 1, none⟩ (.slice a2 n2 c2)) = wz at *
            have f0 := FS.out.1.c0
            have f1 := FS.out.1.c1
            refine bodyPost_ret (v := .tuple #[.agg #[.slice a1 n1 c1, .slice a2 n2 c2], .int .i64 0]) (by simp [results, Try.results10, go_sem, f0, f1]) rfl ⟨a1, n1, c1, a2, n2, c2, by rw [E.out], by rw [O1.out]; exact FS.out.2.1, by rw [O2.out]; exact FS.out.2.2, BZ.out⟩
      · have E : Hid (errC V L 4 node = 4) := by
          show _ = _
          rw [HE.out, if_neg (by rw [HX.out]; exact id)]
          simp
        have O1 : Hid (outV V L 4 node = []) := by
          show _ = _
          rw [HO1.out, E.out]; rfl
        have O2 : Hid (outL V L 4 node = []) := by
          show _ = _
          rw [HO2.out, E.out]; rfl
        clear HO1 HO2 HE HX CC Q1 Q2
        have CZ := Lib.hid ((CRc.out.s0 nilS).s1 nilS)
        have BZ : Hid (Below w.heap.size w ((wc.setCell ⟨w.heap.size + 1, 0, none⟩ nilS).setCell ⟨w.heap.size + 1, 1, none⟩ nilS)) := (LB.out.setCell (p := ⟨w.heap.size + 1, 0, none⟩) (Nat.le_succ _) _).setCell (p := ⟨w.heap.size + 1, 1, none⟩) (Nat.le_succ _) _
        go_wp2_with fail
        generalize ((wc.setCell ⟨w.heap.size + 1, 0, none⟩ nilS).setCell ⟨w.heap.size + 1, 1, none⟩ nilS) = wz at *
        have f0 := CZ.out.c0
        have f1 := CZ.out.c1
        refine bodyPost_ret (v := .tuple #[.agg #[.slice none 0 0, .slice none 0 0], .int .i64 4]) (by simp [results, Try.results10, go_sem, f0, f1]) rfl ⟨none, 0, 0, none, 0, 0, by rw [E.out], by rw [O1.out]; exact ⟨rfl, .inl rfl⟩, by rw [O2.out]; exact ⟨rfl, .inl rfl⟩, BZ.out⟩
    · have E : Hid (errC V L kind node = 2) := by
        show _ = _
        rw [HE.out, if_neg (by rw [HX.out]; exact id)]
        simp [k1, k2, k3, k4]
      have O1 : Hid (outV V L kind node = []) := by
        show _ = _
        rw [HO1.out, E.out]; rfl
      have O2 : Hid (outL V L kind node = []) := by
        show _ = _
        rw [HO2.out, E.out]; rfl
      clear HO1 HO2 HE HX CC Q1 Q2
      have CZ := Lib.hid ((CRc.out.s0 nilS).s1 nilS)
      have BZ : Hid (Below w.heap.size w ((wc.setCell ⟨w.heap.size + 1, 0, none⟩ nilS).setCell ⟨w.heap.size + 1, 1, none⟩ nilS)) := (LB.out.setCell (p := ⟨w.heap.size + 1, 0, none⟩) (Nat.le_succ _) _).setCell (p := ⟨w.heap.size + 1, 1, none⟩) (Nat.le_succ _) _
      go_wp2_with fail
      generalize ((wc.setCell ⟨w.heap.size + 1, 0, none⟩ nilS).setCell ⟨w.heap.size + 1, 1, none⟩ nilS) = wz at *
      have f0 := CZ.out.c0
      have f1 := CZ.out.c1
      refine bodyPost_ret (v := .tuple #[.agg #[.slice none 0 0, .slice none 0 0], .int .i64 2]) (by simp [results, Try.results10, go_sem, f0, f1]) rfl ⟨none, 0, 0, none, 0, 0, by rw [E.out], by rw [O1.out]; exact ⟨rfl, .inl rfl⟩, by rw [O2.out]; exact ⟨rfl, .inl rfl⟩, BZ.out⟩
end Go.Proofs.Ytedifbdjcebefaa
