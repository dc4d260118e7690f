/- The law 'QueueReads' answers true at every input, and leaves its arguments as they were. (The frame was written by a program, after the kit's own frames; no condition beside the statement's own.) -/
import Derived.Test.YtbjhpifllgoffaaRows
import Derived.WalkKit
import Derived.ProofKit
import Derived.OpenShut
import Derived.Deep.RegionHeld3
import Derived.Deep.DeepCutAuto
import Derived.ShutString
import Derived.ChangeOld
import Derived.Below
import Derived.SizedLaws
import Derived.Test.YtbjhpifllgoffaaQRead
namespace Go.Proofs.Ytbjhpifllgoffaa.queueReads
open Go.ChangeShapes Go.WideShapes Go.ChangeAt Go.RowKit Go.Proofs.Ytbjhpifllgoffaa
open Go.ChangeMaps (open_string shut_string)
set_option linter.unusedVariables false
set_option linter.unusedSimpArgs false
set_option maxRecDepth 100000

theorem own : ownKnob Try.prog.godebug = none := by kernel_rfl
theorem laidOut : laidOutB Try.prog = true := by kernel_rfl

set_option maxHeartbeats 4000000 in
theorem walk (w : World) (s0 : Option Addr) (n0 c0 : Nat) (z0 : List Int) (t0 : Option Addr) (m0 e0 : Nat) (y0 : List Int) (r0 : IsRow w s0 n0 c0 z0) (q0 : IsRow w t0 m0 e0 y0) (b0 : n0 ≤ 17592186044416 ∧ m0 ≤ 17592186044416) (a1 : Int) (w1 : (Lit.int .i64 a1).wf = true) (s2 : Option Addr) (n2 c2 : Nat) (xs2 : List Ac) (ar2 : AR w s2 n2 xs2) :
    Calls Try.prog 6 #[.agg #[.slice s0 n0 c0, .slice t0 m0 e0], .int .i64 a1, .slice s2 n2 c2] w fun e w' => e = .returned (.bool true) ∧ Below w.heap.size w w' := by
  have RV0 := Lib.hid r0.rd
  have HC0 : Hid (n0 ≤ c0) := cap_row r0
  have HAR := Lib.hid ar2
  obtain ⟨hb1, hb2⟩ := b0
  clear r0 q0 w1 ar2
  by_cases g2 : 100 < n0 + m0
  · have d2 : decide ((100 : Int) < (n0 : Int) + (m0 : Int)) = true := decide_eq_true (by omega)
    go_enter Try.func6, Try.ntmps6
    go_wp2_with fail
    refine (lives_any _).mono ?_
    rintro e w2 ⟨rfl, hB⟩
    have HL : Hid (Below w.heap.size w w2) := (((Below.refl _ w).alloc (Nat.le_refl _) _).trans (hB.mono (B' := w.heap.size) (by simp)))
    clear hB
    go_wp2_with fail
    go_ret
    exact ⟨rfl, HL.out⟩
  have d2 : decide ((100 : Int) < (n0 : Int) + (m0 : Int)) = false := decide_eq_false (by omega)
  by_cases g3 : 300 < n2
  · have d3 : decide ((300 : Int) < (n2 : Int)) = true := decide_eq_true (by omega)
    go_enter Try.func6, Try.ntmps6
    go_wp2_with fail
    refine (lives_any _).mono ?_
    rintro e w2 ⟨rfl, hB⟩
    have HL : Hid (Below w.heap.size w w2) := (((Below.refl _ w).alloc (Nat.le_refl _) _).trans (hB.mono (B' := w.heap.size) (by simp)))
    clear hB
    go_wp2_with fail
    go_ret
    exact ⟨rfl, HL.out⟩
  have d3 : decide ((300 : Int) < (n2 : Int)) = false := decide_eq_false (by omega)
  obtain ⟨s, hs⟩ : ∃ s, s = w.heap.size := ⟨_, rfl⟩
  have HS := Lib.hid hs
  have hsle : w.heap.size ≤ s := Nat.le_of_eq hs.symm
  have hn0 : n0 ≤ 100 := by omega
  have hm0 : m0 ≤ 100 := by omega
  have hn2 : n2 ≤ 300 := by omega
  clear g2 g3 hb1 hb2
  go_enter Try.func6, Try.ntmps6
  go_wp2_with fail
  refine (rnew_at _).mono ?_
  rintro e w1 ⟨p, hp, rfl, hR, hB⟩
  have START := Lib.hid (qb_start hs hR hB)
  obtain ⟨b, hpb⟩ : ∃ b, p.b = b := ⟨_, rfl⟩
  rw [hpb, ← hs]
  have HPB := Lib.hid hpb
  clear hpb hp hR hB hs
  go_wp2_with fail
  obtain ⟨xb, hxb⟩ : ∃ xb, w1.heap.size = xb := ⟨_, rfl⟩
  rw [hxb] at START ⊢
  clear hxb
  generalize w1.alloc (.cells #[.slice none 0 0, .slice none 0 0, .slice none 0 0] 50) = w3 at *
  go_loopw [10, 11, 33] (fun _ _ iv wr => ∃ (i k : Nat) (l : List Wt) (p : RP) (x : XP) (H : List Pr), i ≤ n2 ∧ iv = .int .i64 i ∧ p.b = b ∧ x.b = xb ∧ QB w s #[.slice s0 n0 c0, .slice t0 m0 e0] wr p k (mOf H) l x H ∧ k ≤ i ∧ l.length ≤ i ∧ H.length ≤ i) (fun _ _ iv _ => n2 - (intOf iv).toNat)
  case atStart => exact ⟨0, 0, [], p, _, [], Nat.zero_le _, rfl, HPB.out, rfl, START.out, Nat.le_refl _, Nat.le_refl _, Nat.le_refl _⟩
  case round =>
    clear START HPB p w3
    obtain ⟨i, k, l, p, x, H, hin, rfl, hpb, hxb, hQ, hk, hl, hH⟩ := hrel
    have HPB := Lib.hid hpb
    have HXB := Lib.hid hxb
    have HQ := Lib.hid hQ
    clear hpb hxb hQ
    by_cases hlt : i < n2
    · have d4 : decide ((i : Int) < (n2 : Int)) = true := decide_eq_true (by omega)
      have d4' : decide (i < n2) = true := decide_eq_true hlt
      obtain ⟨ab, ao, rfl, hac⟩ : ∃ ab ao, s2 = some ⟨ab, ao, none⟩ ∧ ∀ c, c < 4 → w.cell? ⟨ab, ao + i * 4 + c, none⟩ = some ((xs2.getD i default).cs.getD c undef) := by
        rcases HAR.out.2.1 with h | ⟨ab, ao, h1, h2⟩
        · omega
        · exact ⟨ab, ao, h1, fun c hc => h2 i hlt c hc⟩
      have HWF := Lib.hid (HAR.out.2.2 i hlt)
      generalize xs2.getD i default = e at *
      obtain ⟨ek, en, em, er⟩ := e
      have hBw := HQ.out.2.2.2.1.mono hsle
      have z0 : wr.cell? ⟨ab, ao + i * 4, none⟩ = some (.int .i64 ek) := by have h := hac 0 (by omega); exact (hBw.cell (cell_block_lt h)).trans h
      have z1 : wr.cell? ⟨ab, ao + i * 4 + 1, none⟩ = some (.int .i64 en) := by have h := hac 1 (by omega); exact (hBw.cell (cell_block_lt h)).trans h
      have z2 : wr.cell? ⟨ab, ao + i * 4 + 2, none⟩ = some (.int .i64 em) := by have h := hac 2 (by omega); exact (hBw.cell (cell_block_lt h)).trans h
      have z3 : wr.cell? ⟨ab, ao + i * 4 + 3, none⟩ = some (.int .i64 er) := by have h := hac 3 (by omega); exact (hBw.cell (cell_block_lt h)).trans h
      have HQ1 := Lib.hid (HQ.out.act #[.int .i64 en, .int .i64 en, .int .i64 em, .int .i64 er])
      clear HQ1
      have HQ1 := Lib.hid (HQ.out.act #[.int .i64 ek, .int .i64 en, .int .i64 em, .int .i64 er])
      clear hac hBw
      have hAl : ∀ D, (wr.alloc (.cells D 52)).heap.size = wr.heap.size + 1 := fun D => by simp
      have HAL := Lib.hid hAl
      clear hAl
      by_cases k0 : ek = 0
      · subst k0
        have kf0 : ((0 : Int) == 0) = true := by simp
        have kf1 : ((0 : Int) == 1) = false := by simp
        have kf2 : ((0 : Int) == 2) = false := by simp
        have kf3 : ((0 : Int) == 3) = false := by simp
        go_wp2_with fail
        obtain ⟨A, hA⟩ : ∃ A, wr.heap.size = A := ⟨_, rfl⟩
        have hA1 : wr.heap.size + 1 = A + 1 := by rw [hA]
        rw [hA] at HQ1 ⊢
        clear z0 z1 z2 z3 HAL hA1
        obtain ⟨W1, hW1⟩ : ∃ W1, wr.alloc (.cells #[.int .i64 0, .int .i64 en, .int .i64 em, .int .i64 er] 52) = W1 := ⟨_, rfl⟩
        rw [hW1] at HQ1 ⊢
        clear hA hW1 HQ
        have HQB0 := HPB
        obtain ⟨lN, hlN⟩ : ∃ lN, lN = if addB l er then l ++ [(en, em, er)] else l := ⟨_, rfl⟩
        have hL9 : lN.length ≤ i + 1 := by
          rw [hlN]
          split
          · simp; omega
          · omega
        have hl1 : l.length ≤ 1000 := by omega
        have CA := qadd (HQ1.out.below (Below.refl _ W1).drew) hl1 en em er
        rw [HPB.out, ← hlN] at CA
        have CB2 : Hid (∀ W q, QP w s #[.slice s0 n0 c0, .slice t0 m0 e0] A #[.int .i64 0, .int .i64 en, .int .i64 em, .int .i64 er] W q k (mOf H) lN x l H → Calls Try.prog 20 #[.pointer (some ⟨xb, 0, none⟩), .int .i64 en, .int .i64 em, .int .i64 er] W fun e w' => e = .returned (.bool (addB l er)) ∧ ∃ y : XP, y.b = xb ∧ QP w s #[.slice s0 n0 c0, .slice t0 m0 e0] A #[.int .i64 0, .int .i64 en, .int .i64 em, .int .i64 er] w' q k (mOf H) lN y lN H) := by
          show ∀ W q, _
          intro W q h
          have := qxadd h hl1 en em er
          rwa [HXB.out, ← hlN] at this
        have HCA := Lib.hid CA
        have KS0 := Lib.hid (HQ1.out.below (Below.refl _ W1).drew).act
        clear CA hlN
        have hbb : (addB l er == addB l er) = true := by simp
        go_region_held3 (fun W => W.cell? ⟨A, 0, none⟩ = some (.int .i64 0) ∧ W.cell? ⟨A, 1, none⟩ = some (.int .i64 en) ∧ W.cell? ⟨A, 2, none⟩ = some (.int .i64 em) ∧ W.cell? ⟨A, 3, none⟩ = some (.int .i64 er))
          (first | exact KS0.out | exact hQ5.act | exact hQ6.act)
          (first
            | (go_at_call 14; (with_reducible refine HCA.out.mono ?_); rintro e w5 ⟨rfl, q5, hb5, hQ5⟩)
            | (go_at_call 20; (with_reducible refine (CB2.out _ q5 hQ5).mono ?_); rintro e w6 ⟨rfl, y6, hb6, hQ6⟩))
        have HQ9 := Lib.hid hQ6
        have HQB9 : Hid (q5.b = b) := hb5
        have HXB9 : Hid (y6.b = xb) := hb6
        have hH9 : H.length ≤ i + 1 := by omega
        clear hQ5 hQ6 hb5 hb6
        try (rename_i hHeld; clear hHeld)
        have HLEN9 : Hid (∀ n, Calls Try.prog 18 #[.pointer (some ⟨b, 0, none⟩)] (w6.drewN n) fun e w' => e = .returned (.int .i64 (lN).length) ∧ w' = w6.drewN n) := by
          show ∀ n, _
          intro n
          have h1 := rlen_at q5 (s + 1) k (mOf H) (lN) (w6.drewN n) (HQ9.out.drewN n).1
          rw [HQB9.out] at h1
          exact h1.mono fun _ _ h => ⟨h.1, h.2.symm⟩
        obtain ⟨xa9, xc9, hxv9⟩ := HQ9.out.2.1.2.2.1.1.slice
        have hxb9 := HQ9.out.2.1.2.1
        rw [HXB9.out, hxv9] at hxb9
        have c9 : w6.cell? ⟨xb, 0, none⟩ = some (.slice xa9 (lN).length xc9) := by simp [World.cell?, hxb9]
        obtain ⟨n9, hn9⟩ : ∃ n9, n9 = (lN).length := ⟨_, rfl⟩
        rw [← hn9] at c9 HLEN9
        clear hxb9 hxv9 hn9
        go_wp2_with fail
        go_quiet ((go_at_call 18; exact Calls.quiet_of_same (HLEN9.out _)))
        go_wp2_with fail
        go_roundw
        case rel => exact ⟨i + 1, k, lN, q5, y6, H, by omega, by go_num, HQB9.out, HXB9.out, HQ9.out.base9 _, by omega, hL9, hH9⟩
        case measure => simp [intOf]; omega
      by_cases k1 : ek = 1
      · subst k1
        have kf0 : ((1 : Int) == 0) = false := by simp
        have kf1 : ((1 : Int) == 1) = true := by simp
        have kf2 : ((1 : Int) == 2) = false := by simp
        have kf3 : ((1 : Int) == 3) = false := by simp
        go_wp2_with fail
        obtain ⟨A, hA⟩ : ∃ A, wr.heap.size = A := ⟨_, rfl⟩
        have hA1 : wr.heap.size + 1 = A + 1 := by rw [hA]
        rw [hA] at HQ1 ⊢
        clear z0 z1 z2 z3 HAL hA1
        obtain ⟨W1, hW1⟩ : ∃ W1, wr.alloc (.cells #[.int .i64 1, .int .i64 en, .int .i64 em, .int .i64 er] 52) = W1 := ⟨_, rfl⟩
        rw [hW1] at HQ1 ⊢
        clear hA hW1 HQ
        have HQB0 := HPB
        have CA := qsaid HQ1.out (by omega) en er HWF.out.2.1 HWF.out.2.2.2
        rw [HPB.out, ← mOf_hear] at CA
        have HCA := Lib.hid CA
        clear CA
        obtain ⟨q0, q1, q2, q3⟩ := HQ1.out.act
        go_wp2_with fail
        refine HCA.out.mono ?_
        rintro e w5 ⟨rfl, q5, hb5, hQ5⟩
        have CB := qheard hQ5 (by omega) en er
        rw [HXB.out] at CB
        have HCB := Lib.hid CB
        obtain ⟨r0, r1, r2, r3⟩ := hQ5.act
        clear CB q0 q1 q2 q3
        go_wp2_with fail
        refine HCB.out.mono ?_
        rintro e w6 ⟨rfl, y6, hb6, hQ6⟩
        have HQ9 := Lib.hid hQ6
        have HQB9 : Hid (q5.b = b) := hb5
        have HXB9 : Hid (y6.b = xb) := hb6
        have hL9 : l.length ≤ i + 1 := by omega
        have hH9 : (hearP H en er).length ≤ i + 1 := by
          have := hearP_len H en er
          omega
        clear hQ5 hQ6 hb5 hb6 r0 r1 r2 r3
        have HLEN9 : Hid (∀ n, Calls Try.prog 18 #[.pointer (some ⟨b, 0, none⟩)] (w6.drewN n) fun e w' => e = .returned (.int .i64 (l).length) ∧ w' = w6.drewN n) := by
          show ∀ n, _
          intro n
          have h1 := rlen_at q5 (s + 1) (k + 1) (mOf (hearP H en er)) (l) (w6.drewN n) (HQ9.out.drewN n).1
          rw [HQB9.out] at h1
          exact h1.mono fun _ _ h => ⟨h.1, h.2.symm⟩
        obtain ⟨xa9, xc9, hxv9⟩ := HQ9.out.2.1.2.2.1.1.slice
        have hxb9 := HQ9.out.2.1.2.1
        rw [HXB9.out, hxv9] at hxb9
        have c9 : w6.cell? ⟨xb, 0, none⟩ = some (.slice xa9 (l).length xc9) := by simp [World.cell?, hxb9]
        obtain ⟨n9, hn9⟩ : ∃ n9, n9 = (l).length := ⟨_, rfl⟩
        rw [← hn9] at c9 HLEN9
        clear hxb9 hxv9 hn9
        go_wp2_with fail
        go_quiet ((go_at_call 18; exact Calls.quiet_of_same (HLEN9.out _)))
        go_wp2_with fail
        go_roundw
        case rel => exact ⟨i + 1, (k + 1), l, q5, y6, (hearP H en er), by omega, by go_num, HQB9.out, HXB9.out, HQ9.out.base9 _, by omega, hL9, hH9⟩
        case measure => simp [intOf]; omega
      by_cases k2 : ek = 2
      · subst k2
        have kf0 : ((2 : Int) == 0) = false := by simp
        have kf1 : ((2 : Int) == 1) = false := by simp
        have kf2 : ((2 : Int) == 2) = true := by simp
        have kf3 : ((2 : Int) == 3) = false := by simp
        go_wp2_with fail
        obtain ⟨A, hA⟩ : ∃ A, wr.heap.size = A := ⟨_, rfl⟩
        have hA1 : wr.heap.size + 1 = A + 1 := by rw [hA]
        rw [hA] at HQ1 ⊢
        clear z0 z1 z2 z3 HAL hA1
        obtain ⟨W1, hW1⟩ : ∃ W1, wr.alloc (.cells #[.int .i64 2, .int .i64 en, .int .i64 em, .int .i64 er] 52) = W1 := ⟨_, rfl⟩
        rw [hW1] at HQ1 ⊢
        clear hA hW1 HQ
        have HQB0 := HPB
        have CA := qready (va := s0) (vn := n0) (vc := c0) (V := z0.take n0) (u := .slice t0 m0 e0) (HQ1.out.below (Below.refl _ W1).drew) (by omega) (by omega) hsle RV0.out (by omega) ⟨_, _, _, rfl⟩ a1
        rw [HPB.out] at CA
        have hle := rdyN_le (rdyF (z0.take n0) (mOf H) a1) l
        have CB : Hid (∀ W q P, QP w s #[.slice s0 n0 c0, .slice t0 m0 e0] A #[.int .i64 2, .int .i64 en, .int .i64 em, .int .i64 er] W q k (mOf H) P x l H → Calls Try.prog 23 #[.pointer (some ⟨xb, 0, none⟩), .agg #[.slice s0 n0 c0, .slice t0 m0 e0], .int .i64 a1] W fun e w' => ∃ v, e = .returned v ∧ Rx w' v (l.take (rdyN (rdyF (z0.take n0) (mOf H) a1) l)) ∧ (∀ j, v.ownBlock = some j → W.heap.size ≤ j) ∧ Kept (fun j => j = xb) W w' ∧ ∃ y : XP, y.b = xb ∧ QP w s #[.slice s0 n0 c0, .slice t0 m0 e0] A #[.int .i64 2, .int .i64 en, .int .i64 em, .int .i64 er] w' q k (mOf H) P y (l.drop (rdyN (rdyF (z0.take n0) (mOf H) a1) l)) H) := by
          show ∀ W q P, _
          intro W q P h
          have := qxready (va := s0) (vn := n0) (vc := c0) (V := z0.take n0) (u := .slice t0 m0 e0) h (by omega) (by omega) hsle RV0.out (by omega) HC0.out ⟨_, _, _, rfl⟩ a1
          rwa [HXB.out] at this
        have hxs : xb < W1.heap.size := by rw [← HXB.out]; exact HQ1.out.2.1.own_lt _ (.inl rfl)
        generalize rdyN (rdyF (z0.take n0) (mOf H) a1) l = P at *
        have HCA := Lib.hid CA
        have KS0 := Lib.hid (HQ1.out.below (Below.refl _ W1).drew).conf
        have hL9 : (l.drop P).length ≤ i + 1 := by rw [List.length_drop]; omega
        have hH9 : H.length ≤ i + 1 := by omega
        have hTL : (l.take P).length ≤ 100000 := by rw [List.length_take]; omega
        clear CA
        obtain ⟨q0, q1, q2, q3⟩ := HQ1.out.act
        go_wp2_with fail
        clear q0 q1 q2 q3
        go_region_held3 (fun W => W.cell? ⟨s, 0, none⟩ = some (.slice s0 n0 c0) ∧ W.cell? ⟨s, 1, none⟩ = some (.slice t0 m0 e0))
          (first | exact KS0.out | exact hQ5.conf | exact hQ6.conf | exact hQ7.conf)
          (first
            | (go_at_call 16; (with_reducible refine HCA.out.mono ?_); rintro e w5 ⟨v5, rfl, hr5, ho5, hk5, q5, hb5, hQ5⟩)
            | (go_at_call 23; (with_reducible refine (CB.out _ q5 _ hQ5).mono ?_); rintro e w6 ⟨v6, rfl, hr6, ho6, hk6, y6, hb6, hQ6⟩; have hrr6 := hr5.blocks hk6 (fun j hj e => by have := ho5 j hj; subst e; exact Nat.lt_irrefl _ (Nat.lt_of_lt_of_le hxs this)))
            | (go_at_call 22; (refine (same_any v5 v6 (l.take P) _ hrr6 hr6 hTL).mono ?_); rintro e w7 ⟨rfl, hb7⟩; have hQ7 := hQ6.below hb7))
        have HQ9 := Lib.hid hQ7
        have HQB9 : Hid (q5.b = b) := hb5
        have HXB9 : Hid (y6.b = xb) := hb6
        clear hQ5 hQ6 hQ7 hb5 hb6 hr5 ho5 hk5 hr6 ho6 hk6 hrr6 hb7
        try (rename_i hHeld; clear hHeld)
        have HLEN9 : Hid (∀ n, Calls Try.prog 18 #[.pointer (some ⟨b, 0, none⟩)] (w7.drewN n) fun e w' => e = .returned (.int .i64 ((l.drop P)).length) ∧ w' = w7.drewN n) := by
          show ∀ n, _
          intro n
          have h1 := rlen_at q5 (s + 1) k (mOf H) ((l.drop P)) (w7.drewN n) (HQ9.out.drewN n).1
          rw [HQB9.out] at h1
          exact h1.mono fun _ _ h => ⟨h.1, h.2.symm⟩
        obtain ⟨xa9, xc9, hxv9⟩ := HQ9.out.2.1.2.2.1.1.slice
        have hxb9 := HQ9.out.2.1.2.1
        rw [HXB9.out, hxv9] at hxb9
        have c9 : w7.cell? ⟨xb, 0, none⟩ = some (.slice xa9 ((l.drop P)).length xc9) := by simp [World.cell?, hxb9]
        obtain ⟨n9, hn9⟩ : ∃ n9, n9 = ((l.drop P)).length := ⟨_, rfl⟩
        rw [← hn9] at c9 HLEN9
        clear hxb9 hxv9 hn9
        go_wp2_with fail
        go_quiet ((go_at_call 18; exact Calls.quiet_of_same (HLEN9.out _)))
        go_wp2_with fail
        go_roundw
        case rel => exact ⟨i + 1, k, (l.drop P), q5, y6, H, by omega, by go_num, HQB9.out, HXB9.out, HQ9.out.base9 _, by omega, hL9, hH9⟩
        case measure => simp [intOf]; omega
      by_cases k3 : ek = 3
      · subst k3
        have kf0 : ((3 : Int) == 0) = false := by simp
        have kf1 : ((3 : Int) == 1) = false := by simp
        have kf2 : ((3 : Int) == 2) = false := by simp
        have kf3 : ((3 : Int) == 3) = true := by simp
        go_wp2_with fail
        obtain ⟨A, hA⟩ : ∃ A, wr.heap.size = A := ⟨_, rfl⟩
        have hA1 : wr.heap.size + 1 = A + 1 := by rw [hA]
        rw [hA] at HQ1 ⊢
        clear z0 z1 z2 z3 HAL hA1
        obtain ⟨W1, hW1⟩ : ∃ W1, wr.alloc (.cells #[.int .i64 3, .int .i64 en, .int .i64 em, .int .i64 er] 52) = W1 := ⟨_, rfl⟩
        rw [hW1] at HQ1 ⊢
        clear hA hW1 HQ
        have HQB0 := HPB
        have CA := qdrop HQ1.out (by omega)
        rw [HPB.out] at CA
        have HCA := Lib.hid CA
        have HOL : Hid (∀ j, x.own j → j < W1.heap.size) := HQ1.out.2.1.own_lt
        clear CA
        obtain ⟨q0, q1, q2, q3⟩ := HQ1.out.act
        go_wp2_with fail
        refine HCA.out.mono ?_
        rintro e w5 ⟨v5, rfl, hr5, ho5, q5, hb5, hQ5⟩
        have CB := qxdrop hQ5
        rw [HXB.out] at CB
        have HCB := Lib.hid CB
        clear CB q0 q1 q2 q3
        go_wp2_with fail
        refine HCB.out.mono ?_
        rintro e w6 ⟨v6, rfl, hr6, hk6, y6, hb6, hQ6⟩
        have hrr6 := hr5.blocks hk6 (fun j hj e => by have := ho5 j hj; have := HOL.out j e; omega)
        have HSM := Lib.hid (same_any v5 v6 l w6 hrr6 hr6 (by omega))
        go_wp2_with fail
        refine HSM.out.mono ?_
        rintro e w7 ⟨rfl, hb7⟩
        have HQ9 := Lib.hid (hQ6.below hb7)
        have HQB9 : Hid (q5.b = b) := hb5
        have HXB9 : Hid (y6.b = xb) := hb6
        have hL9 : ([] : List Wt).length ≤ i + 1 := by simp
        have hH9 : ([] : List Pr).length ≤ i + 1 := by simp
        clear hQ5 hQ6 hb5 hb6 hr5 ho5 hr6 hk6 hrr6 hb7
        have HLEN9 : Hid (∀ n, Calls Try.prog 18 #[.pointer (some ⟨b, 0, none⟩)] (w7.drewN n) fun e w' => e = .returned (.int .i64 (([] : List Wt)).length) ∧ w' = w7.drewN n) := by
          show ∀ n, _
          intro n
          have h1 := rlen_at q5 (s + 1) 0 (mOf []) (([] : List Wt)) (w7.drewN n) (HQ9.out.drewN n).1
          rw [HQB9.out] at h1
          exact h1.mono fun _ _ h => ⟨h.1, h.2.symm⟩
        obtain ⟨xa9, xc9, hxv9⟩ := HQ9.out.2.1.2.2.1.1.slice
        have hxb9 := HQ9.out.2.1.2.1
        rw [HXB9.out, hxv9] at hxb9
        have c9 : w7.cell? ⟨xb, 0, none⟩ = some (.slice xa9 (([] : List Wt)).length xc9) := by simp [World.cell?, hxb9]
        obtain ⟨n9, hn9⟩ : ∃ n9, n9 = (([] : List Wt)).length := ⟨_, rfl⟩
        rw [← hn9] at c9 HLEN9
        clear hxb9 hxv9 hn9
        go_wp2_with fail
        go_quiet ((go_at_call 18; exact Calls.quiet_of_same (HLEN9.out _)))
        go_wp2_with fail
        go_roundw
        case rel => exact ⟨i + 1, 0, ([] : List Wt), q5, y6, ([] : List Pr), by omega, by go_num, HQB9.out, HXB9.out, HQ9.out.base9 _, by omega, hL9, hH9⟩
        case measure => simp [intOf]; omega
      have kf0 : ((ek : Int) == 0) = false := by simpa using k0
      have kf1 : ((ek : Int) == 1) = false := by simpa using k1
      have kf2 : ((ek : Int) == 2) = false := by simpa using k2
      have kf3 : ((ek : Int) == 3) = false := by simpa using k3
      go_wp2_with fail
      obtain ⟨A, hA⟩ : ∃ A, wr.heap.size = A := ⟨_, rfl⟩
      have hA1 : wr.heap.size + 1 = A + 1 := by rw [hA]
      rw [hA] at HQ1 ⊢
      clear z0 z1 z2 z3 HAL hA1
      obtain ⟨W1, hW1⟩ : ∃ W1, wr.alloc (.cells #[.int .i64 ek, .int .i64 en, .int .i64 em, .int .i64 er] 52) = W1 := ⟨_, rfl⟩
      rw [hW1] at HQ1 ⊢
      clear hA hW1 HQ
      have HQB0 := HPB
      have HQ9 := HQ1
      have HQB9 : Hid (p.b = b) := HPB
      have HXB9 : Hid (x.b = xb) := HXB
      have hL9 : l.length ≤ i + 1 := by omega
      have hH9 : H.length ≤ i + 1 := by omega
      obtain ⟨q0, q1, q2, q3⟩ := HQ1.out.act
      have HLEN9 : Hid (∀ n, Calls Try.prog 18 #[.pointer (some ⟨b, 0, none⟩)] (W1.drewN n) fun e w' => e = .returned (.int .i64 (l).length) ∧ w' = W1.drewN n) := by
        show ∀ n, _
        intro n
        have h1 := rlen_at p (s + 1) k (mOf H) (l) (W1.drewN n) (HQ9.out.drewN n).1
        rw [HQB9.out] at h1
        exact h1.mono fun _ _ h => ⟨h.1, h.2.symm⟩
      obtain ⟨xa9, xc9, hxv9⟩ := HQ9.out.2.1.2.2.1.1.slice
      have hxb9 := HQ9.out.2.1.2.1
      rw [HXB9.out, hxv9] at hxb9
      have c9 : W1.cell? ⟨xb, 0, none⟩ = some (.slice xa9 (l).length xc9) := by simp [World.cell?, hxb9]
      obtain ⟨n9, hn9⟩ : ∃ n9, n9 = (l).length := ⟨_, rfl⟩
      rw [← hn9] at c9 HLEN9
      clear hxb9 hxv9 hn9
      go_wp2_with fail
      go_quiet ((go_at_call 18; exact Calls.quiet_of_same (HLEN9.out _)))
      go_wp2_with fail
      go_roundw
      case rel => exact ⟨i + 1, k, l, p, x, H, by omega, by go_num, HQB9.out, HXB9.out, HQ9.out.base9 _, by omega, hL9, hH9⟩
      case measure => simp [intOf]; omega
    · have d4 : decide ((i : Int) < (n2 : Int)) = false := decide_eq_false (by omega)
      have d4' : decide (i < n2) = false := decide_eq_false hlt
      have hsl : s < wr.heap.size := (Array.getElem?_eq_some_iff.1 HQ.out.2.2.2.2).1
      go_wp2_with fail
      refine (lives_any _).mono ?_
      rintro e w2 ⟨rfl, hB⟩
      have HL : Hid (Below s w w2) := HQ.out.2.2.2.1.trans (hB.mono (by omega))
      clear hB
      go_wp2_with fail
      go_ret
      exact ⟨rfl, by rw [← HS.out]; exact HL.out⟩

theorem lifted (os : Os) (started : os.Started) (H : Type) (enc : TypeId × Value → H) :
    ReturnsInHanded {} Try.checked os 6 .any (Rows.queueReadsSpec.pre6 enc Try.prog Try.f6 Rows.queueReadsRow.domain false) (Rows.queueReadsSpec.post enc Try.prog Try.f6 false true false false) := by
  refine returnsInHanded_of_change_sized (C := Try.checked) own started (by kernel_rfl) Try.func6
    (ChangeSpec.witness6 (enc := enc) (C := Try.checked) false ⟨#[], #[.agg #[.slice none 0 0, .slice none 0 0], .int .i64 0, .slice none 0 0], []⟩ 8 (by kernel_rfl) (by kernel_rfl) (by kernel_rfl) (by kernel_rfl)) ?_
  intro W base args ds gs before hval0 hW hcnd hsz0 _
  have hsz : (DataW.weightsEach Try.prog (Try.f6.params.toList ++ Rows.queueReadsSpec.plain.varTypes Try.prog) (ds ++ gs)).all (· ≤ reachBytes) = true := hsz0
  clear hsz0
  have hval : ∀ (j : Nat) t v, Try.f6.params[j]? = some t → args[j]? = some v → Value.okWide Try.prog W .any base t v := hval0
  have hW' := hW
  obtain ⟨p, q, hA0, hV, rfl, hfz, hnd⟩ := hW
  have hA : DataW.TrodAll enc Try.prog W 0 (fun _ => true) true Try.f6.params.toList args.toList ds p := hA0
  rw [Try.params6] at hA hval hsz
  obtain ⟨v0, vs0, d0, ds0, p0, q0, hargs, rfl, rfl, h0, r0⟩ := trodAll_cons hA
  obtain ⟨v1, vs1, d1, ds1, p1, q1, rfl, rfl, rfl, h1, r1⟩ := trodAll_cons r0
  obtain ⟨v2, vs2, d2, ds2, p2, q2, rfl, rfl, rfl, h2, r2⟩ := trodAll_cons r1
  obtain ⟨rfl, rfl, rfl⟩ := trodAll_nil r2
  obtain rfl : args = #[v0, v1, v2] := by cases args; simp_all
  obtain ⟨rfl, rfl⟩ := trodVars_none hV
  have k0 := h0
  have lt0 : ∀ x ∈ p0, x.block < W.heap.size := by obtain ⟨m, hm⟩ := k0; exact DataW.trod_lt m _ _ _ hm
  obtain ⟨s0, n0, c0, z0, t0, m0, e0, y0, g0, f0, rfl, rfl, w0, x0, j0, l0⟩ := open_conf (hval 0 32 v0 rfl rfl) h0
  have b0 : n0 ≤ 17592186044416 ∧ m0 ≤ 17592186044416 := by
    have := conf_le hsz j0 l0
    have := w0.len
    have := x0.len
    omega
  clear j0 l0 hsz
  obtain ⟨a1, rfl, rfl, rfl, w1⟩ := open_int Try.underlying3 (hval 1 3 v1 rfl rfl) h1
  have k2 := h2
  have lt2 : ∀ x ∈ p2, x.block < W.heap.size := by obtain ⟨m, hm⟩ := k2; exact DataW.trod_lt m _ _ _ hm
  obtain ⟨s2, n2, c2, xs2, rfl, ar2⟩ := open_acts (hval 2 46 v2 rfl rfl) h2
  clear hA0 hval0
  try simp only [List.append_nil] at hW'
  refine (walk W s0 n0 c0 z0 t0 m0 e0 y0 w0 x0 b0 a1 w1 s2 n2 c2 xs2 ar2).mono fun e W' ⟨he, hg⟩ => ?_
  subst he
  exact ⟨_, rfl, _, _, _, [], _, [], hW', (trodAll_cons_mk (shut_bool Try.underlying4 _) trodAll_mk0), (trodAll_cons_mk (Below.trod laidOut (by kernel_rfl) (of_decide_eq_true (by kernel_rfl)) k0 hg lt0) (trodAll_cons_mk (shut_int Try.underlying3 w1) (trodAll_cons_mk (Below.trod laidOut (by kernel_rfl) (of_decide_eq_true (by kernel_rfl)) k2 hg lt2) trodAll_mk0))), rfl, hg.frame _, fun h => by cases h⟩

theorem over : Rows.queueReadsRow.holds Try.pinned (OpenSpec.ofChange Rows.queueReadsSpec) :=
  OpenClaim.holds_of_wide 6 Try.f6 rfl rfl rfl rfl rfl rfl rfl ⟨rfl, rfl, rfl, rfl, rfl⟩ rfl rfl rfl rfl rfl (by kernel_rfl) Try.func6 (by kernel_rfl)
    (of_decide_eq_true (by kernel_rfl)) (by unfold Func.isWrapper; first | (rw [if_pos (by decide +kernel)]; kernel_rfl) | (rw [if_neg (by decide +kernel)]; exact ⟨rfl, rfl⟩))
    (fun os started H enc _ => lifted os started H enc)

/-- ████ THE STATEMENT ████ -/
theorem proved : Rows.QueueReadsSaid :=
  over
#print axioms proved
end Go.Proofs.Ytbjhpifllgoffaa.queueReads
