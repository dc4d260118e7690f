/- Apply, Compact, Hint of the document's log; are lists alike. -/
import Derived.Test.YtbgfpmnicpmieaaERefB
namespace Go.Proofs.Ytbgfpmnicpmieaa
open Go Go.RowKit Go.Shelf Go.Sort
set_option linter.unusedVariables false
set_option linter.unusedSimpArgs false
set_option maxRecDepth 100000
set_option maxHeartbeats 1000000
def ApplyR (w : World) (m b : Nat) (l : Lg) (es : List Ent) (most : Int) (e : Ending) (w' : World) : Prop :=
  (∃ a n c, e = .returned (.slice a n c) ∧ w'.ownsRow w.heap.size 37 13 (.slice a n c) n (flatE (appE l es most))) ∧ RG w' m b (appL l most) es ∧ Kept (· = b) w w'
theorem refapply_any (m b : Nat) (l : Lg) (es : List Ent) (most : Int) (w : World) (hg : RG w m b l es) (hi : Inv l es) (hm1 : -9223372036854775808 ≤ most) (hm2 : most ≤ 9223372036854775807) :
    Calls Try.prog 49 #[.pointer (some ⟨b, 0, none⟩), .int .i64 most] w (ApplyR w m b l es most) := by
  have HG := Lib.hid hg
  have HV := Lib.hid hi
  have i1 := hi.a1
  have i2 := hi.a2
  have i3 := hi.a3
  have hsm := hi.ok.small
  have hlo := hi.ok.lo
  have hhi := hi.ok.hi
  have HE : Hid (appE l es most = if appN l most < 1 then [] else (es.drop (l.app - l.ix).toNat).take (appN l most).toNat) := rfl
  have HL : Hid (appL l most = if appN l most < 1 then l else { l with app := l.app + appN l most }) := rfl
  have HN : Hid (appN l most = min (l.com - l.app) most) := rfl
  have h3 := hg.lb.c3
  have h4 := hg.lb.c4
  clear hg hi
  have hw1 : IntKind.i64.wrap (l.com - l.app) = l.com - l.app := IntWalk.i64_in _ (by omega)
  go_enter Try.func49, Try.ntmps49
  go_upto_region 1 with fail
  go_cut [5] (fun v wx => v = .int .i64 (l.com - l.app) ∧ ∃ nq, wx = w.drewN nq)
  case first =>
    go_quiet (fail)
    go_wp2_with fail
    go_meet
    exact ⟨rfl, nq, rfl⟩
  case rest =>
    obtain ⟨rfl, nq, rfl⟩ := hcut
    have L1 : Hid (Below w.heap.size w (w.drewN nq)) := below_drewN' (Below.refl _ _) nq
    have G1 := Lib.hid (HG.out.below (Nat.le_refl _) L1.out)
    have hbl : b < (w.drewN nq).heap.size := HG.out.lb.lt
    have HSZ : Hid ((w.drewN nq).heap.size = w.heap.size) := rfl
    clear hw1 h3 h4 HG
    generalize w.drewN nq = w1 at *
    obtain ⟨x, hx⟩ : ∃ x, x = min (l.com - l.app) most := ⟨_, rfl⟩
    have HNX : Hid (appN l most = x) := by show _ = _; rw [HN.out, hx]
    by_cases c0 : most < l.com - l.app
    · have d0 : decide (most < l.com - l.app) = true := decide_eq_true c0
      have e0 : x = most := by omega
      clear c0
      subst e0
      have E1X : x < 1 → appE l es x = [] := fun h => by rw [HE.out, HNX.out, if_pos h]
      have E2X : x < 1 → appL l x = l := fun h => by rw [HL.out, HNX.out, if_pos h]
      have E3X : ¬ x < 1 → appE l es x = slcE l es (l.app + 1) x := fun h => by
        rw [HE.out, HNX.out, if_neg h, slcE, if_neg (by omega), if_neg h]
        rw [show l.app + 1 - l.ix - 1 = l.app - l.ix by omega]
      have E4X : ¬ x < 1 → appL l x = { l with app := l.app + x } := fun h => by rw [HL.out, HNX.out, if_neg h]
      have hx1 : x ≤ l.com - l.app := by omega
      have hx2 : -9223372036854775808 ≤ x ∧ x ≤ 9223372036854775807 := by omega
      have X1 := Lib.hid E1X
      have X2 := Lib.hid E2X
      have X3 := Lib.hid E3X
      have X4 := Lib.hid E4X
      clear E1X E2X E3X E4X hx

      by_cases c1 : x < 1
      · have d1 : decide (x < 1) = true := decide_eq_true c1
        have E1 := Lib.hid (X1.out c1)
        have E2 := Lib.hid (X2.out c1)
        clear c1
        go_wp2_with fail
        go_ret
        exact ⟨⟨none, 0, 0, rfl, by rw [E1.out]; exact World.ownsRow_nil _ _ _ _⟩, by rw [E2.out]; exact G1.out, Kept.of L1.out (Nat.le_refl _)⟩
      · have d1 : decide (x < 1) = false := decide_eq_false c1
        have E1 := Lib.hid (X3.out c1)
        have E2 := Lib.hid (X4.out c1)
        have h4 := G1.out.lb.c4
        clear c1
        go_wp2_with fail
        refine (refslice_any m b l es (l.app + 1) x _ G1.out HV.out.ok).mono ?_
        rintro e w2 ⟨a, n, c, rfl, hO, hb⟩
        have G2 := Lib.hid (G1.out.below (Nat.le_refl _) hb)
        have L2 := Lib.hid (L1.out.trans (hb.mono L1.out.size))
        have HO := Lib.hid hO
        clear hb hO h4 G1
        have h4 := G2.out.lb.c4
        have f4 := G2.out.lb.frozen 4
        go_wp2_with fail
        go_ret
        refine ⟨⟨a, n, c, rfl, ?_⟩, ?_, (Kept.of (S := (· = b)) L2.out (Nat.le_refl _)).setCell (p := ⟨b, 4, none⟩) rfl _⟩
        · rw [E1.out, ← HSZ.out]
          refine own_set HO.out _ _ (fun hh => ?_)
          have := (HO.out.lt _ hh).1
          exact absurd this (Nat.not_le_of_lt hbl)
        · rw [E2.out]
          exact G2.out.set (G2.out.lb.s4 (l.app + x)) rfl rfl rfl
    · have d0 : decide (most < l.com - l.app) = false := decide_eq_false c0
      have e0 : l.com - l.app = x := by omega
      have E1X : x < 1 → appE l es most = [] := fun h => by rw [HE.out, HNX.out, if_pos h]
      have E2X : x < 1 → appL l most = l := fun h => by rw [HL.out, HNX.out, if_pos h]
      have E3X : ¬ x < 1 → appE l es most = slcE l es (l.app + 1) x := fun h => by
        rw [HE.out, HNX.out, if_neg h, slcE, if_neg (by omega), if_neg h]
        rw [show l.app + 1 - l.ix - 1 = l.app - l.ix by omega]
      have E4X : ¬ x < 1 → appL l most = { l with app := l.app + x } := fun h => by rw [HL.out, HNX.out, if_neg h]
      have hx1 : x ≤ l.com - l.app := by omega
      have hx2 : -9223372036854775808 ≤ x ∧ x ≤ 9223372036854775807 := by omega
      have X1 := Lib.hid E1X
      have X2 := Lib.hid E2X
      have X3 := Lib.hid E3X
      have X4 := Lib.hid E4X
      clear E1X E2X E3X E4X hx
      rw [e0]
      rw [e0] at d0
      clear c0 e0
      by_cases c1 : x < 1
      · have d1 : decide (x < 1) = true := decide_eq_true c1
        have E1 := Lib.hid (X1.out c1)
        have E2 := Lib.hid (X2.out c1)
        clear c1
        go_wp2_with fail
        go_ret
        exact ⟨⟨none, 0, 0, rfl, by rw [E1.out]; exact World.ownsRow_nil _ _ _ _⟩, by rw [E2.out]; exact G1.out, Kept.of L1.out (Nat.le_refl _)⟩
      · have d1 : decide (x < 1) = false := decide_eq_false c1
        have E1 := Lib.hid (X3.out c1)
        have E2 := Lib.hid (X4.out c1)
        have h4 := G1.out.lb.c4
        clear c1
        go_wp2_with fail
        refine (refslice_any m b l es (l.app + 1) x _ G1.out HV.out.ok).mono ?_
        rintro e w2 ⟨a, n, c, rfl, hO, hb⟩
        have G2 := Lib.hid (G1.out.below (Nat.le_refl _) hb)
        have L2 := Lib.hid (L1.out.trans (hb.mono L1.out.size))
        have HO := Lib.hid hO
        clear hb hO h4 G1
        have h4 := G2.out.lb.c4
        have f4 := G2.out.lb.frozen 4
        go_wp2_with fail
        go_ret
        refine ⟨⟨a, n, c, rfl, ?_⟩, ?_, (Kept.of (S := (· = b)) L2.out (Nat.le_refl _)).setCell (p := ⟨b, 4, none⟩) rfl _⟩
        · rw [E1.out, ← HSZ.out]
          refine own_set HO.out _ _ (fun hh => ?_)
          have := (HO.out.lt _ hh).1
          exact absurd this (Nat.not_le_of_lt hbl)
        · rw [E2.out]
          exact G2.out.set (G2.out.lb.s4 (l.app + x)) rfl rfl rfl
end Go.Proofs.Ytbgfpmnicpmieaa
