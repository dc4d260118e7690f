/- Match of the document's log. -/
import Derived.Test.YtbgfpmnicpmieaaERefE
namespace Go.Proofs.Ytbgfpmnicpmieaa
open Go Go.RowKit Go.Shelf Go.Sort
set_option linter.unusedVariables false
set_option linter.unusedSimpArgs false
set_option maxRecDepth 100000
set_option maxHeartbeats 1000000
def MatchR (w : World) (m b : Nat) (l : Lg) (es : List Ent) (index term : Int) (n : Nat) (ys : List Ent) (e : Ending) (w' : World) : Prop :=
  (matOk l es index term ys = false ∧ e = .returned (.tuple #[.int .i64 0, .bool false]) ∧ RG w' m b l es ∧ Below w.heap.size w w') ∨
  (matOk l es index term ys = true ∧ n ≤ matK l es ys ∧ e = .returned (.tuple #[.int .i64 (index + n), .bool true]) ∧ RG w' m b l es ∧ Below w.heap.size w w') ∨
  (matOk l es index term ys = true ∧ matK l es ys < n ∧ index + matK l es ys + 1 ≤ l.com ∧ e = .returned (.tuple #[.int .i64 0, .bool false]) ∧ RG w' m b l es ∧ Below w.heap.size w w') ∨
  (matOk l es index term ys = true ∧ matK l es ys < n ∧ l.com < index + matK l es ys + 1 ∧ e = .returned (.tuple #[.int .i64 (index + n), .bool true]) ∧ ∃ a c, RG w' m b (matL l index (matK l es ys) n a c) (matE l es index (matK l es ys) ys) ∧ (∀ j, gOf (matL l index (matK l es ys) n a c) = some j → w.heap.size ≤ j) ∧ Kept (· = b) w w')
set_option maxHeartbeats 8000000 in
theorem refmatch_any (m b : Nat) (l : Lg) (es : List Ent) (a : Option Addr) (n c : Nat) (ys : List Ent) (index term : Int) (w : World)
    (hg : RG w m b l es) (ho : Ok l (pts es)) (hy : ER w a n ys) (hk : EKs w ys) (hn : n ≤ 1000) (hnc : n ≤ c) :
    Calls Try.prog 45 #[.pointer (some ⟨b, 0, none⟩), .int .i64 index, .int .i64 term, .slice a n c] w (MatchR w m b l es index term n ys) := by
  have hlo := ho.lo
  have hhi := ho.hi
  have hsm := ho.small
  have HT := Lib.hid (refterm_any m b l es index w hg ho)
  have G0 := Lib.hid hg
  have Y0 := Lib.hid hy
  have K0 := Lib.hid hk
  have HO := Lib.hid ho
  have HOK : Hid (matOk l es index term ys = ((termF l (pts es) index).2 == 0 && ((termF l (pts es) index).1 == term && chainB index term ys))) := rfl
  have HIN : Hid ((termF l (pts es) index).2 = 0 → chainB index term ys = true → index + matK l es ys ≤ l.ix + l.n) := mat_in
  have HT0 : Hid ((termF l (pts es) index).2 = 0 → l.ix ≤ index ∧ index ≤ l.ix + l.n) := fun h => term_in h
  have HYL := Lib.hid hy.1
  clear hg ho hy hk
  go_enter Try.func45, Try.ntmps45
  go_wp2_with fail
  refine HT.out.mono ?_
  rintro e w1 ⟨rfl, hbw⟩
  have L1 := Lib.hid hbw
  have G1 := Lib.hid (G0.out.below (Nat.le_refl _) hbw)
  have Y1 := Lib.hid (Y0.out.keep (Nat.le_refl _) hbw)
  have K1 := Lib.hid (K0.out.keep (Nat.le_refl _) hbw)
  clear hbw HT
  generalize termF l (pts es) index = q at *
  obtain ⟨q1, q2⟩ := q
  dsimp only at HOK HIN HT0 ⊢
  by_cases c1 : q2 = 0
  rotate_left
  · have d1 : (q2 != 0) = true := by simpa using c1
    have HF : Hid (matOk l es index term ys = false) := by show _ = _; rw [HOK.out]; simp [c1]
    clear c1
    go_wp2_with fail
    go_ret2
    exact .inl ⟨HF.out, rfl, G1.out, L1.out⟩
  subst c1
  by_cases c2 : q1 = term
  rotate_left
  · have d1 : (q1 != term) = true := by simpa using c2
    have HF : Hid (matOk l es index term ys = false) := by show _ = _; rw [HOK.out]; simp [c2]
    clear c2
    go_wp2_with fail
    go_ret2
    exact .inl ⟨HF.out, rfl, G1.out, L1.out⟩
  subst c2
  have e1 : (q1 != q1) = false := by simp
  have hil := HT0.out (by trivial)
  have HOK2 : Hid (matOk l es index q1 ys = chainB index q1 ys) := by show _ = _; rw [HOK.out]; simp
  clear HOK HT0
  go_wp2_with fail
  refine (refchain_any index q1 a n c ys _ Y1.out K1.out (by omega) (by omega) (by omega)).mono ?_
  rintro e w2 ⟨rfl, hbw⟩
  have L2 := Lib.hid (L1.out.trans (hbw.mono L1.out.size))
  clear hbw G1 Y1 K1
  rw [← HOK2.out]
  cases hc : matOk l es index q1 ys
  · have HF := Lib.hid hc
    clear hc
    go_wp2_with fail
    go_ret2
    exact .inl ⟨HF.out, rfl, G0.out.below (Nat.le_refl _) L2.out, L2.out⟩
  have HF := Lib.hid hc
  have hin := HIN.out (by trivial) (HOK2.out ▸ hc)
  have HCH : Hid (chainB index q1 ys = true) := HOK2.out ▸ hc
  clear hc HIN HOK2 e1
  have HK : Hid (matK l es ys = firstO l (pts es) ys) := rfl
  obtain ⟨K, hK⟩ : ∃ K, K = matK l es ys := ⟨_, rfl⟩
  have HKK := Lib.hid hK
  have HKF : Hid (K = firstO l (pts es) ys) := hK
  have HKn : Hid (K ≤ n) := by show _ ≤ _; have h1 := firstO_le l (pts es) ys; have h2 := HKF.out; have h3 := HYL.out; omega
  rw [← hK] at hin
  clear hK HK
  go_wp2_with fail
  go_loopw [38] (fun iv wr => ∃ k : Nat, k ≤ n ∧ iv = .int .i64 k ∧ firstO l (pts es) ys = k + firstO l (pts es) (ys.drop k) ∧ Below w.heap.size w wr) (fun iv _ => n - (intOf iv).toNat)
  case atStart => exact ⟨0, Nat.zero_le _, rfl, by simp, L2.out⟩
  case round =>
    obtain ⟨k, hk, rfl, hE, hB⟩ := hrel
    have HE := Lib.hid hE
    have L3 := Lib.hid hB
    have hKk : k ≤ K := by rw [HKF.out, hE]; omega
    clear hB hE
    by_cases hlt : k < n
    rotate_left
    · obtain rfl : k = n := by omega
      have hw2 : IntKind.i64.wrap (index + (k : Int)) = index + k := IntWalk.i64_in _ (by omega)
      go_wp2_with fail
      go_ret2
      exact .inr (.inl ⟨HF.out, by rw [← HKK.out]; exact hKk, rfl, G0.out.below (Nat.le_refl _) L3.out, L3.out⟩)
    have R3 := Y0.out.keep (Nat.le_refl _) L3.out
    have G3 := Lib.hid (G0.out.below (Nat.le_refl _) L3.out)
    obtain ⟨yb, yo, rfl, hrow⟩ := R3.row hlt
    have hkl : k < ys.length := by have := HYL.out; omega
    have HEI : Hid ((ys.getD k default).i = index + 1 + k) := chain_row HCH.out k hkl
    have HD := Lib.hid (firstO_drop l (pts es) ys k hkl HE.out)
    have q0 := hrow 0 (by omega)
    have q1' := hrow 1 (by omega)
    have q2 := hrow 2 (by omega)
    have q3 := hrow 3 (by omega)
    have q4 := hrow 4 (by omega)
    have q5 := hrow 5 (by omega)
    have q6 := hrow 6 (by omega)
    have q7 := hrow 7 (by omega)
    have q8 := hrow 8 (by omega)
    have q9 := hrow 9 (by omega)
    have q10 := hrow 10 (by omega)
    have q11 := hrow 11 (by omega)
    have q12 := hrow 12 (by omega)
    have HR3 := Lib.hid R3
    clear hrow hkl R3
    generalize ys.getD k default = x at *
    simp only [List.getD_cons_zero, List.getD_cons_succ] at q0 q1' q2 q3 q4 q5 q6 q7 q8 q9 q10 q11 q12
    rw [Nat.add_zero] at q0
    go_wp2_with fail
    have LA : Below wr.heap.size wr (wr.alloc (.cells x.cs'.toArray 37)) := (Below.refl _ wr).alloc (Nat.le_refl _) _
    refine (refterm_any m b l es x.i _ (G3.out.below (Nat.le_refl _) LA) HO.out).mono ?_
    rintro r w4 ⟨rfl, hb⟩
    have z0 := (hb.cell (p := ⟨wr.heap.size, 0, none⟩) (by simp)).trans (show _ = some (Value.int .i64 x.i) by simp)
    have z1 := (hb.cell (p := ⟨wr.heap.size, 1, none⟩) (by simp)).trans (show _ = some (Value.int .i64 x.t) by simp)
    have L4 := Lib.hid ((L3.out.alloc L3.out.size _).trans (hb.mono (by have := L3.out.size; simp; omega)))
    have HW4 : Hid (Below wr.heap.size wr w4) := LA.trans (hb.mono LA.size)
    have hws4 : wr.heap.size < w4.heap.size := cell_block_lt z0
    clear hb q0 q1' q2 q3 q4 q5 q6 q7 q8 q9 q10 q11 q12 LA
    have HOT : Hid (othB l (pts es) x.i x.t = ((termF l (pts es) x.i).2 != 0 || (termF l (pts es) x.i).1 != x.t)) := rfl
    generalize termF l (pts es) x.i = p at *
    obtain ⟨p1, p2⟩ := p
    dsimp only at HOT ⊢
    cases ho : othB l (pts es) x.i x.t
    · have h := HOT.out
      rw [ho] at h
      have h' := h.symm
      rw [Bool.or_eq_false_iff] at h'
      obtain ⟨h1, h2⟩ := h'
      have f1 : p2 = 0 := by simpa using h1
      have f2 : p1 = x.t := by simpa using h2
      have HN := Lib.hid (HD.out.2 ho)
      subst f1 f2
      clear h h1 h2 ho
      have d5 : (x.t == x.t) = true := by simp
      go_wp2_with fail
      go_roundw
      case rel => exact ⟨k + 1, by omega, by go_num, HN.out, L4.out⟩
      case measure => simp [intOf]; omega
    · have hKeq : K = k := by rw [HKF.out]; exact HD.out.1 ho
      subst hKeq
      have h := HOT.out
      rw [ho] at h
      have HOT2 := Lib.hid h.symm
      clear h ho HD HE HOT
      go_upto_region 8 with fail
      go_cut [57] (fun v wx => v = .bool false ∧ wx = w4)
      case first =>
        by_cases f1 : p2 = 0
        · subst f1
          have d6 : (p1 == x.t) = false := by have := HOT2.out; simpa using this
          go_wp2_with fail
          go_meet
          exact ⟨rfl, rfl⟩
        · have d5 : (p2 == 0) = false := by simpa using f1
          clear f1
          go_wp2_with fail
          go_meet
          exact ⟨rfl, rfl⟩
      case rest =>
        obtain ⟨rfl, hwc⟩ := hcut
        obtain rfl := hwc.symm
        have G4 := Lib.hid (G0.out.below (Nat.le_refl _) L4.out)
        have c3 := G4.out.lb.c3
        have hb4 : b < w4.heap.size := G4.out.lb.lt
        by_cases c4 : x.i ≤ l.com
        · have d4 : decide (x.i ≤ l.com) = true := decide_eq_true c4
          have C4 : Hid (index + K + 1 ≤ l.com) := by show _ ≤ _; have := HEI.out; omega
          clear c4
          go_wp2_with fail
          go_quiet (fail)
          go_wp2
          go_ret2
          exact .inr (.inr (.inl ⟨HF.out, by rw [← HKK.out]; exact hlt, by rw [← HKK.out]; exact C4.out, rfl, G0.out.below (Nat.le_refl _) (below_drewN' L4.out nq), below_drewN' L4.out nq⟩))
        have d4 : decide (x.i ≤ l.com) = false := decide_eq_false c4
        have C4 : Hid (l.com < index + K + 1) := by show _ < _; have := HEI.out; omega
        clear c4
        go_upto_region 9 with fail
        go_cut [64] (fun v wx => v = .bool false ∧ ∃ nq, wx = w4.drewN nq)
        case first =>
          go_quiet (fail)
          go_wp2
          go_meet
          exact ⟨rfl, _, rfl⟩
        case rest =>
          obtain ⟨rfl, nq, rfl⟩ := hcut
          have L5 := Lib.hid (below_drewN' L4.out nq)
          have M5 := Lib.hid (below_drewN' (Below.refl w4.heap.size w4) nq)
          have x5 := (M5.out.cell (cell_block_lt z0)).trans z0
          have hs5 : w4.heap.size ≤ (w4.drewN nq).heap.size := M5.out.size
          generalize w4.drewN nq = w5 at *
          clear M5 z0 z1 c3 d4 G4
          have G5 := Lib.hid (G0.out.below (Nat.le_refl _) L5.out)
          have HX5 := Lib.hid G5.out.er
          have HY5 := Lib.hid (Y0.out.keep (Nat.le_refl _) L5.out)
          have c0 := G5.out.lb.c0
          have c2 := G5.out.lb.c2
          have fz := G5.out.lb.frozen 2
          have hb5 : b < w5.heap.size := by omega
          have hx5 : wr.heap.size < w5.heap.size := by omega
          obtain ⟨j, hj⟩ : ∃ j, j = (index + K - l.ix).toNat := ⟨_, rfl⟩
          have HJ := Lib.hid hj
          have hjn : j ≤ l.n := by omega
          have hcap := G5.out.cap
          have hjc : j ≤ l.c := by omega
          have hkc : K ≤ c := by omega
          have hkc2 : ¬ c = K := by omega
          have hk0 : K ≤ n := by omega
          have hei := HEI.out
          have hw1 : IntKind.i64.wrap (x.i - l.ix) = x.i - l.ix := IntWalk.i64_in _ (by omega)
          have hw2 : IntKind.i64.wrap (x.i - l.ix - 1) = j := by rw [IntWalk.i64_in _ (by omega)]; omega
          have hw3 : IntKind.i64.wrap (x.i - 1) = index + K := by rw [IntWalk.i64_in _ (by omega)]; omega
          have hw4 : IntKind.i64.wrap (index + (n : Int)) = index + n := IntWalk.i64_in _ (by omega)
          clear hj hei
          have HX6 := Lib.hid (HX5.out.take hjn)
          have HY6 := Lib.hid (HY5.out.drop hk0)
          have hnb : j * 168 ≤ 140737488355328 := by omega
          have HLa : Hid (Below w5.heap.size w5 ((w5.alloc (.cells #[] 37)).drew)) := ((Below.refl w5.heap.size w5).alloc (Nat.le_refl _) _).drew
          go_upto_region 11 with fail
          go_cut [84] (fun v wx => ∃ w7 a7 k7, w7.ownsRow w5.heap.size 37 13 (.slice a7 (j + (n - K)) k7) (j + (n - K)) (flatE (es.take j ++ ys.drop K)) ∧ Below w5.heap.size w5 w7 ∧ wx = w7.setCell ⟨b, 2, none⟩ (.slice a7 (j + (n - K)) k7))
          case first =>
            go_region_law (first
              | (refine step_fresh rfl _ _ rfl w5.heap.size _ rfl (heap_alloc_new _ _) HLa.out.size (by omega) l.a j l.c rfl (es.take j) (HX6.out.keep (Nat.le_refl _) HLa.out) hnb ?_; intro a1 k1 w6 ho6 hk6; have H6 := HLa.out.trans (hk6.below HLa.out.size (fun i hi => by omega)); have c26 := kept_low H6 (Nat.le_refl _) c2; have fz6 : w6.frozen? ⟨b, 2, none⟩ = false := (H6.frozen (p := ⟨b, 2, none⟩) hb5).trans fz)
              | (refine step_ownE rfl _ _ rfl w5.heap.size _ j (es.take j) rfl ho6 H6.size _ (n - K) (c - K) rfl (ys.drop K) (HY6.out.keep (Nat.le_refl _) H6) (by omega) ?_; intro a7 k7 w7 ho7 hb7; have H7 := H6.trans hb7; have c27 := kept_low H7 (Nat.le_refl _) c2; have fz7 : w7.frozen? ⟨b, 2, none⟩ = false := (H7.frozen (p := ⟨b, 2, none⟩) hb5).trans fz))
            all_goals (
              have X1 := Lib.hid ho7
              have X2 := Lib.hid H7
              clear ho7 H7 hb7 ho6 hk6 H6
              go_wp2_with fail
              go_meet
              exact ⟨w7, a7, k7, X1.out, X2.out, rfl⟩)
          case rest =>
            obtain ⟨w7, a7, k7, ho7, hb7, rfl⟩ := hcut
            have hls := L5.out.size
            have K7 : Kept (· = b) w w7 := Kept.of (L5.out.trans (hb7.mono hls)) (Nat.le_refl _)
            have K8 := Lib.hid (K7.setCell (p := ⟨b, 2, none⟩) rfl (.slice a7 (j + (n - K)) k7))
            have B7 := G5.out.lb.below (Nat.le_refl _) hb7
            have B8 := Lib.hid (B7.s2 a7 (j + (n - K)) k7)
            have hmb := G5.out.mb
            have O8 := Lib.hid (own_set ho7 ⟨b, 2, none⟩ (.slice a7 (j + (n - K)) k7) (fun h => absurd (ho7.lt _ h).1 (Nat.not_le_of_lt hb5)))
            have HLT : Hid (∀ i, (Value.slice a7 (j + (n - K)) k7).ownBlock = some i → w5.heap.size ≤ i) := fun i hi => (ho7.lt i hi).1
            have x7 := kept_low hb7 (Nat.le_refl _) x5
            have x8 : (w7.setCell ⟨b, 2, none⟩ (.slice a7 (j + (n - K)) k7)).cell? ⟨wr.heap.size, 0, none⟩ = some (.int .i64 x.i) := by
              rw [World.cell?_setCell_other _ _ _ _ (by intro h; cases h)]; exact x7
            clear ho7 hb7 K7 B7 x7 x5 c0 c2 fz HX5 HX6 HY5 HY6 HLa
            generalize w7.setCell ⟨b, 2, none⟩ (.slice a7 (j + (n - K)) k7) = w8 at *
            have c5 := B8.out.c5
            dsimp only at c5
            have hxs8 : wr.heap.size < w8.heap.size := cell_block_lt x8
            have hbs8 : b < w8.heap.size := cell_block_lt c5
            go_upto_region 12 with fail
            go_cut [93] (fun v wx => v = .bool (decide (x.i ≤ l.sur)) ∧ ∃ nq, wx = w8.drewN nq)
            case first =>
              go_quiet (fail)
              go_wp2
              go_meet
              exact ⟨rfl, _, rfl⟩
            case rest =>
              obtain ⟨rfl, nq2, rfl⟩ := hcut
              have L9 := Lib.hid (below_drewN' (Below.refl w8.heap.size w8) nq2)
              have B9 := Lib.hid (B8.out.below (Nat.le_refl _) L9.out)
              have O9 := Lib.hid (own_below O8.out (Nat.le_refl _) L9.out)
              have x9 := (L9.out.cell (cell_block_lt x8)).trans x8
              have K9 := Lib.hid (K8.out.trans (Kept.of L9.out (Nat.le_refl _)))
              clear x8 c5 hxs8 hbs8 K8 B8 O8 L9
              generalize w8.drewN nq2 = w9 at *
              have c9 := B9.out.c5
              have fz9 := B9.out.frozen 5
              dsimp only at c9
              have hkn := hk0
              have E2 : Hid (matE l es index K ys = es.take j ++ ys.drop K) := by show _ = _; rw [matE, ← HJ.out]
              have hei := HEI.out
              have hnb2 : ∀ i, (Value.slice a7 (j + (n - K)) k7).ownBlock = some i → i ≠ b := fun i hi => by have := HLT.out i hi; omega
              have hlm : ∀ i, (Value.slice a7 (j + (n - K)) k7).ownBlock = some i → m ≤ i := fun i hi => by have := HLT.out i hi; omega
              have HNB := Lib.hid hnb2
              have HLM := Lib.hid hlm
              clear hnb2 hlm
              by_cases c6 : x.i ≤ l.sur
              · have d6 : decide (x.i ≤ l.sur) = true := decide_eq_true c6
                have E1 : Hid (matL l index K n a7 k7 = { l with a := a7, n := j + (n - K), c := k7, sur := index + K }) := by
                  show _ = _
                  rw [matL, ← HJ.out, show min l.sur (index + (K : Int)) = index + K by omega]
                rw [d6]
                clear c6 hei d6
                go_wp2_with fail
                go_ret2
                refine .inr (.inr (.inr ⟨HF.out, by rw [← HKK.out]; exact hlt, by rw [← HKK.out]; exact C4.out, rfl, a7, k7, ?_⟩))
                rw [← HKK.out, E1.out, E2.out]
                refine ⟨⟨B9.out.s5 (index + K), own_raise (own_set O9.out ⟨b, 5, none⟩ (.int .i64 (index + K)) (fun h => HNB.out _ h rfl)) HLM.out, hmb⟩, fun i hi => Nat.le_trans hls (HLT.out i hi), K9.out.setCell (p := ⟨b, 5, none⟩) rfl _⟩
              · have d6 : decide (x.i ≤ l.sur) = false := decide_eq_false c6
                have E1 : Hid (matL l index K n a7 k7 = { l with a := a7, n := j + (n - K), c := k7 }) := by
                  show _ = _
                  rw [matL, ← HJ.out, show min l.sur (index + (K : Int)) = l.sur by omega]
                rw [d6]
                clear c6 hei d6
                go_wp2_with fail
                go_ret2
                refine .inr (.inr (.inr ⟨HF.out, by rw [← HKK.out]; exact hlt, by rw [← HKK.out]; exact C4.out, rfl, a7, k7, ?_⟩))
                rw [← HKK.out, E1.out, E2.out]
                exact ⟨⟨B9.out, own_raise O9.out HLM.out, hmb⟩, fun i hi => Nat.le_trans hls (HLT.out i hi), K9.out⟩
end Go.Proofs.Ytbgfpmnicpmieaa
