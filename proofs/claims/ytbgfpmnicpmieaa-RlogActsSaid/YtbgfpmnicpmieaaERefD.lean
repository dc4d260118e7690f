/- Compact, Hint of the document's log; are lists alike. -/
import Derived.Test.YtbgfpmnicpmieaaERefC
namespace Go.Proofs.Ytbgfpmnicpmieaa
open Go Go.RowKit Go.Shelf Go.Sort
set_option linter.unusedVariables false
set_option linter.unusedSimpArgs false
set_option maxRecDepth 100000
set_option maxHeartbeats 1000000
def CompactR (w : World) (m b : Nat) (l : Lg) (es : List Ent) (i : Int) (e : Ending) (w' : World) : Prop :=
  (cptB l i = false ∧ e = .returned (.bool false) ∧ RG w' m b l es ∧ Kept (· = b) w w') ∨
  (cptB l i = true ∧ e = .returned (.bool true) ∧ Kept (· = b) w w' ∧ ∃ a c, RG w' m b { l with ix := i, tm := (es.getD (cptK l i) default).t, a := a, n := l.n - (cptK l i + 1), c := c } (es.drop (cptK l i + 1)) ∧ ∀ j, (Value.slice a (l.n - (cptK l i + 1)) c).ownBlock = some j → w.heap.size ≤ j)
theorem refcompact_any (m b : Nat) (l : Lg) (es : List Ent) (i : Int) (w : World) (hg : RG w m b l es) (hi : Inv l es) :
    Calls Try.prog 50 #[.pointer (some ⟨b, 0, none⟩), .int .i64 i] w (CompactR w m b l es i) := by
  have HG := Lib.hid hg
  have HV := Lib.hid hi
  have i1 := hi.a1
  have i2 := hi.a2
  have i3 := hi.a3
  have hsm := hi.ok.small
  have hlo := hi.ok.lo
  have hhi := hi.ok.hi
  have HB : Hid (cptB l i = (decide (l.ix < i) && decide (i ≤ min l.app l.sur))) := rfl
  have h0 := hg.lb.c0
  have h4 := hg.lb.c4
  have h5 := hg.lb.c5
  clear hg hi
  go_enter Try.func50, Try.ntmps50
  by_cases c1 : i ≤ l.ix
  · have d1 : decide (i ≤ l.ix) = true := decide_eq_true c1
    have HF : Hid (cptB l i = false) := by show _ = _; rw [HB.out, decide_eq_false (by omega)]; rfl
    clear c1
    go_wp2_with fail
    go_ret
    exact .inl ⟨HF.out, rfl, HG.out, Kept.refl _ _⟩
  have d1 : decide (i ≤ l.ix) = false := decide_eq_false c1
  by_cases c2 : l.app < i
  · have d2 : decide (l.app < i) = true := decide_eq_true c2
    have HF : Hid (cptB l i = false) := by show _ = _; rw [HB.out, decide_eq_true (by omega), decide_eq_false (by omega)]; rfl
    clear c1 c2
    go_wp2_with fail
    go_ret
    exact .inl ⟨HF.out, rfl, HG.out, Kept.refl _ _⟩
  have d2 : decide (l.app < i) = false := decide_eq_false c2
  by_cases c3 : l.sur < i
  · have d3 : decide (l.sur < i) = true := decide_eq_true c3
    have HF : Hid (cptB l i = false) := by show _ = _; rw [HB.out, decide_eq_true (by omega), decide_eq_false (by omega)]; rfl
    clear c1 c2 c3
    go_wp2_with fail
    go_ret
    exact .inl ⟨HF.out, rfl, HG.out, Kept.refl _ _⟩
  have d3 : decide (l.sur < i) = false := decide_eq_false c3
  have HF : Hid (cptB l i = true) := by show _ = _; rw [HB.out, decide_eq_true (by omega), decide_eq_true (by omega)]; rfl
  have hkk : (cptK l i : Int) = i - l.ix - 1 := by unfold cptK; omega
  have hkn : cptK l i < l.n := by omega
  have hel := HG.out.len
  have HT : Hid (termF l (pts es) i = ((es.getD (cptK l i) default).t, 0)) := by
    show _ = _
    rw [termF, if_neg (by omega), if_neg (by omega), if_neg (by omega)]
    rw [show (i - l.ix - 1).toNat = cptK l i from rfl, pts_at es (by omega)]
  have HSL : Hid (slcE l es (i + 1) (l.n : Int) = es.drop (cptK l i + 1)) := by
    show _ = _
    rw [slcE, if_neg (by omega), if_neg (by omega), show (i + 1 - l.ix - 1).toNat = cptK l i + 1 by omega, List.take_of_length_le (by rw [List.length_drop]; omega)]
  obtain ⟨k, hk⟩ : ∃ k, k = cptK l i := ⟨_, rfl⟩
  rw [← hk] at hkn HT HSL
  have HK := Lib.hid hk
  have HEL := Lib.hid hel
  have hx1 : i ≤ 2199023256552 := by omega
  have hi0 : 0 ≤ i := by omega
  clear hkk hk c1 c2 c3 hel
  generalize ht : (es.getD k default).t = t at *
  have HTT := Lib.hid ht
  clear ht
  go_wp2_with fail
  refine (refterm_any m b l es i _ HG.out HV.out.ok).mono ?_
  rintro e w2 ⟨rfl, hb⟩
  rw [HT.out]
  have L2 := Lib.hid hb
  have G2 := Lib.hid (HG.out.below (Nat.le_refl _) hb)
  clear hb HG h0 h4 h5 d1 d2 d3
  have c2 := G2.out.lb.c2
  dsimp only
  go_wp2_with fail
  refine (refslice_any m b l es (i + 1) (l.n : Int) _ G2.out HV.out.ok).mono ?_
  rintro e w3 ⟨a3, n3, c3, rfl, hO, hb⟩
  rw [HSL.out] at hO
  have hn3 : n3 = l.n - (k + 1) := by
    have := hO.1
    rw [flatE_len, List.length_drop, HEL.out] at this
    omega
  subst hn3
  have L3 := Lib.hid (L2.out.trans (hb.mono L2.out.size))
  have G3 := Lib.hid (G2.out.below (Nat.le_refl _) hb)
  have HO := Lib.hid (own_mono hO L2.out.size)
  have HO2 := Lib.hid hO
  have hbs : b < w2.heap.size := G2.out.lb.lt
  clear hb hO c2 G2
  have c2 := G3.out.lb.c2
  have f2 := G3.out.lb.frozen 2
  have hmb := G3.out.mb
  have HOW := HO2.out
  have G4 : Hid (RG (w3.setCell ⟨b, 2, none⟩ (.slice a3 (l.n - (k + 1)) c3)) m b { l with a := a3, n := l.n - (k + 1), c := c3 } (es.drop (k + 1))) := by
    refine ⟨G3.out.lb.s2 a3 (l.n - (k + 1)) c3, ?_, hmb⟩
    refine own_raise (own_set HOW ⟨b, 2, none⟩ _ (fun hh => ?_)) (fun j hj => ?_)
    · have := (HOW.lt _ hh).1
      exact absurd this (Nat.not_le_of_lt hbs)
    · have := (HOW.lt _ hj).1
      omega
  have K4 : Hid (Kept (· = b) w (w3.setCell ⟨b, 2, none⟩ (.slice a3 (l.n - (k + 1)) c3))) := (Kept.of (S := (· = b)) L3.out (Nat.le_refl _)).setCell (p := ⟨b, 2, none⟩) rfl _
  have HOG : Hid (∀ j, (Value.slice a3 (l.n - (k + 1)) c3).ownBlock = some j → w.heap.size ≤ j) := by
    show ∀ j, _
    intro j hj
    exact (HO.out.lt _ hj).1
  clear HOW HO HO2 L3
  go_upto_region 5 with fail
  clear c2 f2 G3
  generalize w3.setCell ⟨b, 2, none⟩ (.slice a3 (l.n - (k + 1)) c3) = w4 at *
  have e0 := G4.out.lb.c0
  have e1 := G4.out.lb.c1
  have f0 := G4.out.lb.frozen 0
  have f1 := G4.out.lb.frozen 1
  have G5 := Lib.hid (G4.out.set (G4.out.lb.s0 i) rfl rfl rfl)
  have G6 := Lib.hid (G5.out.set (G5.out.lb.s1 t) rfl rfl rfl)
  dsimp only at e0 e1
  clear L2
  go_wp2_with fail
  go_ret
  refine .inr ⟨HF.out, rfl, (K4.out.setCell (p := ⟨b, 0, none⟩) rfl _).setCell (p := ⟨b, 1, none⟩) rfl _, a3, c3, ?_, ?_⟩
  · rw [← HK.out, HTT.out]; exact G6.out
  · rw [← HK.out]; exact HOG.out
theorem refhint_any (m b : Nat) (l : Lg) (es : List Ent) (index term : Int) (w : World) (hg : RG w m b l es) (ho : Ok l (pts es)) (hi1 : -9223372036854775808 ≤ index) (hi2 : index ≤ 9223372036854775807) :
    Calls Try.prog 55 #[.pointer (some ⟨b, 0, none⟩), .int .i64 index, .int .i64 term] w fun e w' => e = .returned (.int .i64 (l.ix + (hintN (pts es) term (hint0 l index) : Nat))) ∧ Below w.heap.size w w' := by
  have HL := Lib.hid (reflast_any m b l es w hg ho.small)
  have HG := Lib.hid hg
  have HO := Lib.hid ho
  have HLa := Lib.hid ho.last
  have hsm := ho.small
  have hlo := ho.lo
  have hhi := ho.hi
  have hel := hg.len
  have HEL := Lib.hid hel
  have hj0 : Hid (hint0 l index ≤ l.n ∧ max (min index (l.ix + (l.n : Int))) l.ix = l.ix + (hint0 l index : Nat)) := by
    show _ ∧ _
    unfold hint0; omega
  have hlow : Hid (min index (l.ix + (l.n : Int)) < l.ix → hint0 l index = 0) := by
    show _ → _
    unfold hint0; omega
  generalize hint0 l index = j0 at *
  obtain ⟨R, hR⟩ : ∃ R, R = hintN (pts es) term j0 := ⟨_, rfl⟩
  rw [← hR]
  have HR := Lib.hid hR
  clear hg ho hR hel
  obtain ⟨x, hx⟩ : ∃ x, x = min index (l.ix + (l.n : Int)) := ⟨_, rfl⟩
  have HX : Hid (x = l.ix + (j0 : Int) ∨ (x < l.ix ∧ j0 = 0)) := by
    show _ ∨ _
    have h1 := hj0.out.2
    have h2 := hlow.out
    rw [← hx] at h1 h2
    by_cases h : x < l.ix
    · exact .inr ⟨h, h2 h⟩
    · exact .inl (by omega)
  have hj0n := hj0.out.1
  have hxb : -9223372036854775808 ≤ x ∧ x ≤ 2199023257552 := by omega
  clear hlow hj0
  go_enter Try.func55, Try.ntmps55
  go_wp2_with fail
  refine HL.out.mono ?_
  rintro e w1 ⟨rfl, hbw⟩
  rw [HLa.out]
  have L1 := Lib.hid hbw
  have G1 := Lib.hid (HG.out.below (Nat.le_refl _) hbw)
  clear hbw HL HLa HG
  generalize (lastP l (pts es)).2 = lt at *
  by_cases c0 : index < l.ix + (l.n : Int)
  · have d0 : decide (index < l.ix + (l.n : Int)) = true := decide_eq_true c0
    have e0 : x = index := by omega
    clear c0 hx
    subst e0
    have HS0 : Hid ((∃ j : Nat, j ≤ l.n ∧ x = l.ix + j ∧ R = hintN (pts es) term j) ∨ (x < l.ix ∧ R = 0)) := by
      show _ ∨ _
      rcases HX.out with h | ⟨h, h2⟩
      · exact .inl ⟨j0, hj0n, h, HR.out⟩
      · exact .inr ⟨h, by rw [HR.out, h2]; rfl⟩
    go_wp2_with fail
    go_loopw [7] (fun v wr => ∃ y : Int, v = .int .i64 y ∧ -9223372036854775808 ≤ y ∧ y ≤ 2199023257552 ∧ ((∃ j : Nat, j ≤ l.n ∧ y = l.ix + j ∧ R = hintN (pts es) term j) ∨ (y < l.ix ∧ R = 0)) ∧ Below w.heap.size w wr ∧ Below w1.heap.size w1 wr) (fun v _ => (intOf v - l.ix).toNat)
    case atStart => exact ⟨x, rfl, hxb.1, hxb.2, HS0.out, L1.out, Below.refl _ _⟩
    case round =>
      obtain ⟨y, rfl, hy1, hy2, hE, hB1, hB2⟩ := hrel
      have L2 := Lib.hid hB1
      have M2 := Lib.hid hB2
      have G2 := Lib.hid (G1.out.below (Nat.le_refl _) hB2)
      clear hB1 hB2
      have h0 := G2.out.lb.c0
      by_cases c1 : l.ix < y
      · have d1 : decide (l.ix < y) = true := decide_eq_true c1
        obtain ⟨k, hk, hkn, hRk⟩ : ∃ k : Nat, y = l.ix + k + 1 ∧ k < l.n ∧ R = hintN (pts es) term (k + 1) := by
          rcases hE with ⟨j, h1, h2, h3⟩ | ⟨h1, h2⟩
          · obtain ⟨k, rfl⟩ : ∃ k, j = k + 1 := ⟨j - 1, by omega⟩
            exact ⟨k, by omega, by omega, h3⟩
          · omega
        have HT : Hid (termF l (pts es) y = (((pts es).getD k (0, 0)).2, 0)) := by
          show _ = _
          rw [termF, if_neg (by omega), if_neg (by omega), if_neg (by omega), show (y - l.ix - 1).toNat = k by omega]
        have HRk : Hid (R = if term < ((pts es).getD k (0, 0)).2 then hintN (pts es) term k else k + 1) := by show _ = _; rw [hRk]; rfl
        have HYK := Lib.hid hk
        clear hE hRk hk
        generalize ((pts es).getD k (0, 0)).2 = tt at *
        go_wp2_with fail
        refine (refterm_any m b l es y _ G2.out HO.out).mono ?_
        rintro e w4 ⟨rfl, hb⟩
        rw [HT.out]
        have L4 := Lib.hid (L2.out.trans (hb.mono L2.out.size))
        have M4 := Lib.hid (M2.out.trans (hb.mono M2.out.size))
        have G4 := Lib.hid (G2.out.below (Nat.le_refl _) hb)
        clear hb h0
        have h0 := G4.out.lb.c0
        dsimp only
        by_cases c2 : tt ≤ term
        · have d2 : decide (tt ≤ term) = true := decide_eq_true c2
          have HF : Hid (R = k + 1) := by show _ = _; rw [HRk.out, if_neg (by omega)]
          have d3 : decide (y < l.ix) = false := decide_eq_false (by omega)
          clear c2
          go_wp2_with fail
          go_ret
          exact ⟨ret_int (by rw [HF.out]; have := HYK.out; omega), L4.out⟩
        · have d2 : decide (tt ≤ term) = false := decide_eq_false c2
          have HF : Hid (R = hintN (pts es) term k) := by show _ = _; rw [HRk.out, if_pos (by omega)]
          clear c2
          go_wp2_with fail
          go_roundw
          case rel => exact ⟨y - 1, rfl, by omega, by omega, .inl ⟨k, by omega, by have := HYK.out; omega, HF.out⟩, L4.out, M4.out⟩
          case measure => simp [intOf]; omega
      · have d1 : decide (l.ix < y) = false := decide_eq_false c1
        by_cases c2 : y < l.ix
        · have d2 : decide (y < l.ix) = true := decide_eq_true c2
          have HF : Hid (R = 0) := by
            show _ = _
            rcases hE with ⟨j, h1, h2, h3⟩ | ⟨h1, h2⟩
            · omega
            · exact h2
          clear hE
          go_wp2_with fail
          go_ret
          exact ⟨ret_int (by rw [HF.out]; simp), L2.out⟩
        · have d2 : decide (y < l.ix) = false := decide_eq_false c2
          have HF : Hid (R = 0 ∧ y = l.ix) := by
            show _ ∧ _
            rcases hE with ⟨j, h1, h2, h3⟩ | ⟨h1, h2⟩
            · obtain rfl : j = 0 := by omega
              exact ⟨h3, by omega⟩
            · omega
          clear hE
          go_wp2_with fail
          go_ret
          exact ⟨ret_int (by rw [HF.out.1, HF.out.2]; simp), L2.out⟩
  · have d0 : decide (index < l.ix + (l.n : Int)) = false := decide_eq_false c0
    have e0 : l.ix + (l.n : Int) = x := by omega
    have HS0 : Hid ((∃ j : Nat, j ≤ l.n ∧ x = l.ix + j ∧ R = hintN (pts es) term j) ∨ (x < l.ix ∧ R = 0)) := by
      show _ ∨ _
      rcases HX.out with h | ⟨h, h2⟩
      · exact .inl ⟨j0, hj0n, h, HR.out⟩
      · exact .inr ⟨h, by rw [HR.out, h2]; rfl⟩
    rw [e0]
    rw [e0] at d0
    clear c0 hx e0
    go_wp2_with fail
    go_loopw [7] (fun v wr => ∃ y : Int, v = .int .i64 y ∧ -9223372036854775808 ≤ y ∧ y ≤ 2199023257552 ∧ ((∃ j : Nat, j ≤ l.n ∧ y = l.ix + j ∧ R = hintN (pts es) term j) ∨ (y < l.ix ∧ R = 0)) ∧ Below w.heap.size w wr ∧ Below w1.heap.size w1 wr) (fun v _ => (intOf v - l.ix).toNat)
    case atStart => exact ⟨x, rfl, hxb.1, hxb.2, HS0.out, L1.out, Below.refl _ _⟩
    case round =>
      obtain ⟨y, rfl, hy1, hy2, hE, hB1, hB2⟩ := hrel
      have L2 := Lib.hid hB1
      have M2 := Lib.hid hB2
      have G2 := Lib.hid (G1.out.below (Nat.le_refl _) hB2)
      clear hB1 hB2
      have h0 := G2.out.lb.c0
      by_cases c1 : l.ix < y
      · have d1 : decide (l.ix < y) = true := decide_eq_true c1
        obtain ⟨k, hk, hkn, hRk⟩ : ∃ k : Nat, y = l.ix + k + 1 ∧ k < l.n ∧ R = hintN (pts es) term (k + 1) := by
          rcases hE with ⟨j, h1, h2, h3⟩ | ⟨h1, h2⟩
          · obtain ⟨k, rfl⟩ : ∃ k, j = k + 1 := ⟨j - 1, by omega⟩
            exact ⟨k, by omega, by omega, h3⟩
          · omega
        have HT : Hid (termF l (pts es) y = (((pts es).getD k (0, 0)).2, 0)) := by
          show _ = _
          rw [termF, if_neg (by omega), if_neg (by omega), if_neg (by omega), show (y - l.ix - 1).toNat = k by omega]
        have HRk : Hid (R = if term < ((pts es).getD k (0, 0)).2 then hintN (pts es) term k else k + 1) := by show _ = _; rw [hRk]; rfl
        have HYK := Lib.hid hk
        clear hE hRk hk
        generalize ((pts es).getD k (0, 0)).2 = tt at *
        go_wp2_with fail
        refine (refterm_any m b l es y _ G2.out HO.out).mono ?_
        rintro e w4 ⟨rfl, hb⟩
        rw [HT.out]
        have L4 := Lib.hid (L2.out.trans (hb.mono L2.out.size))
        have M4 := Lib.hid (M2.out.trans (hb.mono M2.out.size))
        have G4 := Lib.hid (G2.out.below (Nat.le_refl _) hb)
        clear hb h0
        have h0 := G4.out.lb.c0
        dsimp only
        by_cases c2 : tt ≤ term
        · have d2 : decide (tt ≤ term) = true := decide_eq_true c2
          have HF : Hid (R = k + 1) := by show _ = _; rw [HRk.out, if_neg (by omega)]
          have d3 : decide (y < l.ix) = false := decide_eq_false (by omega)
          clear c2
          go_wp2_with fail
          go_ret
          exact ⟨ret_int (by rw [HF.out]; have := HYK.out; omega), L4.out⟩
        · have d2 : decide (tt ≤ term) = false := decide_eq_false c2
          have HF : Hid (R = hintN (pts es) term k) := by show _ = _; rw [HRk.out, if_pos (by omega)]
          clear c2
          go_wp2_with fail
          go_roundw
          case rel => exact ⟨y - 1, rfl, by omega, by omega, .inl ⟨k, by omega, by have := HYK.out; omega, HF.out⟩, L4.out, M4.out⟩
          case measure => simp [intOf]; omega
      · have d1 : decide (l.ix < y) = false := decide_eq_false c1
        by_cases c2 : y < l.ix
        · have d2 : decide (y < l.ix) = true := decide_eq_true c2
          have HF : Hid (R = 0) := by
            show _ = _
            rcases hE with ⟨j, h1, h2, h3⟩ | ⟨h1, h2⟩
            · omega
            · exact h2
          clear hE
          go_wp2_with fail
          go_ret
          exact ⟨ret_int (by rw [HF.out]; simp), L2.out⟩
        · have d2 : decide (y < l.ix) = false := decide_eq_false c2
          have HF : Hid (R = 0 ∧ y = l.ix) := by
            show _ ∧ _
            rcases hE with ⟨j, h1, h2, h3⟩ | ⟨h1, h2⟩
            · obtain rfl : j = 0 := by omega
              exact ⟨h3, by omega⟩
            · omega
          clear hE
          go_wp2_with fail
          go_ret
          exact ⟨ret_int (by rw [HF.out.1, HF.out.2]; simp), L2.out⟩
/-- Are two lists of entries alike. -/
def likeE (es fs : List Ent) : Bool := decide (es.length = fs.length) && (List.range es.length).all fun j => sameE (es.getD j default) (fs.getD j default)
theorem likeE_self (es : List Ent) : likeE es es = true := by
  simp only [likeE, decide_true, Bool.true_and, List.all_eq_true]
  intro j _
  exact sameE_self _
def LightE (es : List Ent) : Prop := ∀ j, j < es.length → (es.getD j default).vn ≤ 1000 ∧ (es.getD j default).ln ≤ 1000
theorem like_any (a : Option Addr) (n c : Nat) (es : List Ent) (a' : Option Addr) (n' c' : Nat) (fs : List Ent) (w : World) (h1 : ER w a n es) (h2 : ER w a' n' fs) (k1 : EKs w es) (k2 : EKs w fs) (g1 : LightE es) (g2 : LightE fs) (hn : n ≤ 281474976710656) :
    Calls Try.prog 48 #[.slice a n c, .slice a' n' c'] w fun e w' => e = .returned (.bool (likeE es fs)) ∧ Below w.heap.size w w' := by
  have H1 := Lib.hid h1
  have H2 := Lib.hid h2
  have K1 := Lib.hid k1
  have K2 := Lib.hid k2
  have J1 := Lib.hid g1
  have J2 := Lib.hid g2
  have HLa := Lib.hid h1.1
  have HLb := Lib.hid h2.1
  have HD : Hid (likeE es fs = (decide (es.length = fs.length) && (List.range es.length).all fun j => sameE (es.getD j default) (fs.getD j default))) := rfl
  clear h1 h2 k1 k2 g1 g2
  by_cases hnn : n = n'
  rotate_left
  · have HF : Hid (likeE es fs = false) := by show _ = _; rw [HD.out, HLa.out, HLb.out, decide_eq_false hnn]; rfl
    have e1 : ((n : Int) != (n' : Int)) = true := by simp; omega
    have e2 : ((n : Int) == (n' : Int)) = false := by simp; omega
    go_enter Try.func48, Try.ntmps48
    go_wp2_with fail
    go_ret
    exact ⟨ret_bool HF.out.symm, Below.refl _ _⟩
  subst hnn
  have e1 : ((n : Int) != (n : Int)) = false := by simp
  have HA : Hid (likeE es fs = (List.range n).all fun j => sameE (es.getD j default) (fs.getD j default)) := by show _ = _; rw [HD.out, HLa.out, HLb.out, decide_eq_true rfl]; rfl
  go_enter Try.func48, Try.ntmps48
  go_wp2_with fail
  clear e1
  go_loopw [13] (fun iv wr => ∃ k : Nat, k ≤ n ∧ iv = .int .i64 k ∧ (List.range k).all (fun j => sameE (es.getD j default) (fs.getD j default)) = true ∧ Below w.heap.size w wr) (fun iv _ => n - (intOf iv).toNat)
  case atStart => exact ⟨0, Nat.zero_le _, rfl, rfl, Below.refl _ _⟩
  case round =>
    obtain ⟨k, hk, rfl, hall, hB⟩ := hrel
    have L1 := Lib.hid hB
    have R1 := H1.out.keep (Nat.le_refl _) hB
    have R2 := H2.out.keep (Nat.le_refl _) hB
    have HAL := Lib.hid hall
    clear hB hall
    by_cases hlt : k < n
    · obtain ⟨bb, off, rfl, hc⟩ := R1.row hlt
      obtain ⟨bb', off', rfl, hc'⟩ := R2.row hlt
      have hk1 : k < es.length := by have := HLa.out; omega
      have hk2 : k < fs.length := by have := HLb.out; omega
      have KE := Lib.hid (K1.out.at hk1)
      have KF := Lib.hid (K2.out.at hk2)
      have JE := Lib.hid (J1.out k hk1)
      have JF := Lib.hid (J2.out k hk2)
      have HSU : Hid ((List.range (k + 1)).all (fun j => sameE (es.getD j default) (fs.getD j default)) = sameE (es.getD k default) (fs.getD k default)) := by
        show _ = _
        have := HAL.out
        simp only [List.range_succ, List.all_append, List.all_cons, List.all_nil, Bool.and_true]
        rw [this]; rfl
      have HNO : Hid (sameE (es.getD k default) (fs.getD k default) = false → likeE es fs = false) := by
        show _ → _
        intro h
        rw [HA.out, List.all_eq_false]
        exact ⟨k, List.mem_range.2 hlt, by rw [h]; simp⟩
      have K37 : Hid (∀ W, Below wr.heap.size wr W → ∀ c, c < 13 → W.cell? ⟨bb, off + k * 13 + c, none⟩ = some ((es.getD k default).cs'.getD c undef)) := by
        show ∀ W, _
        intro W h c hcc
        exact (h.cell (cell_block_lt (hc c hcc))).trans (hc c hcc)
      have K37' : Hid (∀ W, Below wr.heap.size wr W → ∀ c, c < 13 → W.cell? ⟨bb', off' + k * 13 + c, none⟩ = some ((fs.getD k default).cs'.getD c undef)) := by
        show ∀ W, _
        intro W h c hcc
        exact (h.cell (cell_block_lt (hc' c hcc))).trans (hc' c hcc)
      clear hc hc' R1 R2
      generalize es.getD k default = e at *
      generalize fs.getD k default = f at *
      have K20 : Hid (∀ W, Below wr.heap.size wr W → Calls Try.prog 20 #[e.v, f.v] W fun r w' => r = .returned (.bool (sameE e f)) ∧ Below wr.heap.size wr w') := by
        show ∀ W, _
        intro W h
        have hw := L1.out.trans (h.mono L1.out.size)
        refine (sameE_any e f W (KE.out.keep (Nat.le_refl _) hw) (KF.out.keep (Nat.le_refl _) hw) JE.out JF.out).mono ?_
        rintro r w' ⟨rfl, hb⟩
        exact ⟨rfl, h.trans (hb.mono h.size)⟩
      go_upto_region 6 with fail
      obtain ⟨C, HC0, HCC, HK1, HK2, HK20, hcl⟩ : ∃ C : World → Prop, Hid (C wr.drew) ∧ Hid (∀ W, C W → Below wr.heap.size wr W) ∧ Hid (∀ W, C W → ∀ c, c < 13 → W.cell? ⟨bb, off + k * 13 + c, none⟩ = some (e.cs'.getD c undef)) ∧ Hid (∀ W, C W → ∀ c, c < 13 → W.cell? ⟨bb', off' + k * 13 + c, none⟩ = some (f.cs'.getD c undef)) ∧ Hid (∀ W, C W → Calls Try.prog 20 #[e.v, f.v] W fun r w' => r = .returned (.bool (sameE e f)) ∧ C w') ∧ (∀ q : Prop, (∀ W, C W → q) ↔ q) :=
        ⟨fun W => Below wr.heap.size wr W, (Below.refl _ _).drew, fun _ h => h, K37.out, K37'.out, K20.out, fun q => ⟨fun h => h _ (Below.refl _ _), fun h _ _ => h⟩⟩
      clear K37 K37' K20
      refine wp_region_class C (by kernel_rfl) (by kernel_rfl) HC0.out ?_
      repeat (first
        | go_big_quiet_skip
        | (go_big_quiet_want
           first
           | (refine quiet_load37 _ bb (off + k * 13) e rfl rfl HK1.out ?_; try simp only [Act.put, List.setIfInBounds_toArray, List.set_cons_zero, List.set_cons_succ]; go_big_quiet_on)
           | (refine quiet_load37 _ bb' (off' + k * 13) f rfl rfl HK2.out ?_; try simp only [Act.put, List.setIfInBounds_toArray, List.set_cons_zero, List.set_cons_succ]; go_big_quiet_on)
           | (go_big_quiet_op
              first
              | go_big_quiet_on
              | (apply Exists.intro
                 refine ⟨?_, ?_⟩
                 · exact HK20.out
                 go_big_quiet_on))))
      refine wpQuiet_nil ?_
      intro wz hz
      have HZ := Lib.hid (L1.out.trans ((HCC.out wz hz).mono L1.out.size))
      clear hz HC0 HCC hcl HK1 HK2 HK20
      cases hs : sameE e f
      · have HF := Lib.hid (HNO.out hs)
        clear hs
        go_wp2_with fail
        go_ret
        exact ⟨ret_bool HF.out.symm, HZ.out⟩
      · have HT := Lib.hid (HSU.out.trans hs)
        clear hs
        go_wp2_with fail
        go_roundw
        case rel => exact ⟨k + 1, by omega, by go_num, HT.out, HZ.out⟩
        case measure => simp [intOf]; omega
    · have HF : Hid (likeE es fs = true) := by
        show _ = _
        rw [HA.out, show n = k by omega]
        exact HAL.out
      go_wp2_with fail
      go_ret
      exact ⟨ret_bool HF.out.symm, L1.out⟩
end Go.Proofs.Ytbgfpmnicpmieaa
