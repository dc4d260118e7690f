/- Entries as the document has them: may they be, may they stand behind an index and a term. -/
import Derived.Test.YtbgfpmnicpmieaaERefGood
namespace Go.Proofs.Ytbgfpmnicpmieaa
open Go Go.RowKit Go.Shelf Go.Sort
set_option linter.unusedVariables false
set_option linter.unusedSimpArgs false
set_option maxRecDepth 100000
set_option maxHeartbeats 1000000
theorem refE_any (e : Ent) (w : World) (h : EK w e) : Calls Try.prog 65 #[e.v] w fun r w' => r = .returned (.bool (goodE e)) ∧ Below w.heap.size w w' := by
  have HG : Hid (goodE e = if e.i < 1 then false else if e.t < 1 then false else kindB e) := rfl
  have HK : Hid (kindB e = if e.k = 1 then bareB e && noneB e else if e.k = 2 then noneB e && goodC e.ck e.cs e.cq e.a e.b e.c e.d e.l else if e.k = 3 then bareB e && goodB e.V e.L else false) := rfl
  have hN : noneB e = (((e.vn : Int) + (e.ln : Int)) == 0) := by rw [noneB, h.v.1, h.l.1]; congr 1
  have HB : Hid (bareB e = cmdB e.ck e.cs e.cq e.a e.b e.c e.d e.l 0 0 0 eB eB eB eB 0) := rfl
  have L1 : Hid (Below w.heap.size w (w.alloc (.cells e.cs'.toArray 37))) := (Below.refl _ w).alloc (Nat.le_refl _) _
  have HE := Lib.hid (h.keep (Nat.le_refl _) L1.out)
  have hvm := h.vm
  have hlm := h.lm
  have Q32 := Lib.hid comEq
  clear h
  generalize hge : goodE e = ge at *
  clear hge
  generalize hkb : kindB e = kb at *
  clear hkb
  generalize hnb : noneB e = nb at *
  clear hnb
  generalize hbb : bareB e = bb at *
  clear hbb
  obtain ⟨i, t, k, ck, cs, cq, a, b, c, d, l, va, vn, vc, la, ln, lc, V, L⟩ := e
  dsimp only at HG HK hN HB L1 HE hvm hlm
  have q32 : ∀ w, (binOp .eql 32 (cmdV ck cs cq a b c d l) (cmdV 0 0 0 eB eB eB eB 0)).run Try.prog w = .ok (.bool bb) w := fun w => by rw [HB.out]; exact Q32.out _ _ _ _ _ _ _ _ _ _ _ _ _ _ _ _ w
  clear Q32
  obtain ⟨z, hz⟩ : ∃ z, z = (vn : Int) + (ln : Int) := ⟨_, rfl⟩
  have hzw : IntKind.i64.wrap ((vn : Int) + (ln : Int)) = z := by rw [hz]; exact IntWalk.i64_in _ (by omega)
  rw [← hz] at hN
  have hN' := hN.symm
  have HNN := Lib.hid hN'
  clear hN hN' hz
  go_enter Try.func65, Try.ntmps65
  by_cases c1 : i < 1
  · have d1 : decide (i < 1) = true := decide_eq_true c1
    have G : Hid (ge = false) := by show _ = _; rw [HG.out, if_pos c1]
    clear c1
    go_wp2_with fail
    clear q32
    go_ret
    exact ⟨ret_bool G.out.symm, L1.out⟩
  have G1 : Hid (ge = if t < 1 then false else kb) := by show _ = _; rw [HG.out, if_neg c1]
  have d1 : decide (i < 1) = false := decide_eq_false c1
  clear c1
  by_cases c2 : t < 1
  · have d2 : decide (t < 1) = true := decide_eq_true c2
    have G : Hid (ge = false) := by show _ = _; rw [G1.out, if_pos c2]
    clear c2
    go_wp2_with fail
    clear q32
    go_ret
    exact ⟨ret_bool G.out.symm, L1.out⟩
  have G2 : Hid (ge = kb) := by show _ = _; rw [G1.out, if_neg c2]
  have d2 : decide (t < 1) = false := decide_eq_false c2
  clear c2
  by_cases c3 : k = 1
  · have G : Hid (ge = (bb && nb)) := by show _ = _; rw [G2.out, HK.out, if_pos c3]
    have C3 := Lib.hid c3
    have d3 : (k == 1) = true := by simpa using c3
    clear c3
    cases nb
    · have hn := HNN.out
      go_wp2_with fail
      clear q32
      go_ret
      exact ⟨ret_bool (by rw [G.out]; simp), L1.out⟩
    · have hn := HNN.out
      go_wp2_with fail
      clear q32
      go_ret
      exact ⟨ret_bool (by rw [G.out]; simp), L1.out⟩
  have d3 : (k == 1) = false := by simpa using c3
  by_cases c4 : k = 2
  · have G : Hid (ge = (nb && goodC ck cs cq a b c d l)) := by show _ = _; rw [G2.out, HK.out, if_neg c3, if_pos c4]
    have C4 := Lib.hid c4
    have d4 : (k == 2) = true := by simpa using c4
    clear c3 c4
    cases nb
    · have hn := HNN.out
      go_wp2_with fail
      clear q32
      go_ret
      exact ⟨ret_bool (by rw [G.out]; rfl), L1.out⟩
    · have hn := HNN.out
      clear q32
      go_wp2_with fail
      refine (refC_any ck cs cq a b c d l _).mono ?_
      rintro e w2 ⟨rfl, hb⟩
      have L3 := Lib.hid (L1.out.trans (hb.mono L1.out.size))
      clear hb
      go_wp2_with fail
      go_ret
      exact ⟨ret_bool (by rw [G.out]; rfl), L3.out⟩
  have d4 : (k == 2) = false := by simpa using c4
  by_cases c5 : k = 3
  · have G : Hid (ge = (bb && goodB V L)) := by show _ = _; rw [G2.out, HK.out, if_neg c3, if_neg c4, if_pos c5]
    have C5 := Lib.hid c5
    have d5 : (k == 3) = true := by simpa using c5
    clear c3 c4 c5
    have Q32 := Lib.hid q32
    clear q32
    go_wp2_with fail
    refine (refgood_any va vn vc V la ln lc L _ HE.out.v HE.out.l (Nat.le_trans HE.out.vm (by omega)) (Nat.le_trans HE.out.lm (by omega))).mono ?_
    rintro e w1 ⟨rfl, hb⟩
    have z3 := (hb.cell (p := ⟨w.heap.size, 3, none⟩) (by simp)).trans (show _ = some (Value.int .i64 ck) by simp)
    have z4 := (hb.cell (p := ⟨w.heap.size, 4, none⟩) (by simp)).trans (show _ = some (Value.int .i64 cs) by simp)
    have z5 := (hb.cell (p := ⟨w.heap.size, 5, none⟩) (by simp)).trans (show _ = some (Value.int .i64 cq) by simp)
    have z6 := (hb.cell (p := ⟨w.heap.size, 6, none⟩) (by simp)).trans (show _ = some (Value.string a) by simp)
    have z7 := (hb.cell (p := ⟨w.heap.size, 7, none⟩) (by simp)).trans (show _ = some (Value.string b) by simp)
    have z8 := (hb.cell (p := ⟨w.heap.size, 8, none⟩) (by simp)).trans (show _ = some (Value.string c) by simp)
    have z9 := (hb.cell (p := ⟨w.heap.size, 9, none⟩) (by simp)).trans (show _ = some (Value.string d) by simp)
    have z10 := (hb.cell (p := ⟨w.heap.size, 10, none⟩) (by simp)).trans (show _ = some (Value.int .i64 l) by simp)
    have L2 := Lib.hid (L1.out.trans (hb.mono L1.out.size))
    clear hb
    cases hg : goodB V L
    · have HGB := Lib.hid hg
      clear hg
      go_wp2_with fail
      go_ret
      exact ⟨ret_bool (by rw [G.out, HGB.out]; simp), L2.out⟩
    · have HGB := Lib.hid hg
      clear hg
      have q32 := Q32.out
      go_wp2_with fail
      clear q32
      go_ret
      exact ⟨ret_bool (by rw [G.out, HGB.out]; simp), L2.out⟩
  have d5 : (k == 3) = false := by simpa using c5
  have G : Hid (ge = false) := by show _ = _; rw [G2.out, HK.out, if_neg c3, if_neg c4, if_neg c5]
  clear c3 c4 c5
  go_wp2_with fail
  clear q32
  go_ret
  exact ⟨ret_bool G.out.symm, L1.out⟩
theorem refchain_any (ix tm : Int) (a : Option Addr) (n c : Nat) (es : List Ent) (w : World) (h : ER w a n es) (hk : EKs w es) (hn : n ≤ 281474976710656) (h0 : 0 ≤ ix) (h1 : ix ≤ 4611686018427387904) :
    Calls Try.prog 43 #[.int .i64 ix, .int .i64 tm, .slice a n c] w fun e w' => e = .returned (.bool (chainB ix tm es)) ∧ Below w.heap.size w w' := by
  have HR := Lib.hid h
  have HK := Lib.hid hk
  have HL := Lib.hid h.1
  obtain ⟨s, hs⟩ : ∃ s, s = w.heap.size := ⟨_, rfl⟩
  have HS := Lib.hid hs
  obtain ⟨R, hR⟩ : ∃ R, R = chainB ix tm es := ⟨_, rfl⟩
  have HRR := Lib.hid hR
  rw [← hR]
  clear h hk hs hR
  go_enter Try.func43, Try.ntmps43
  go_wp2_with fail
  go_loopw [1, 11] (fun tv iv wr => ∃ (k : Nat) (t : Int), k ≤ n ∧ iv = .int .i64 k ∧ tv = .int .i64 t ∧ R = chainB (ix + k) t (es.drop k) ∧ Below s w wr) (fun _ iv _ => n - (intOf iv).toNat)
  case atStart => exact ⟨0, tm, by omega, rfl, rfl, by rw [HRR.out]; simp, Below.refl _ _⟩
  case round =>
    obtain ⟨k, t, hk, rfl, rfl, hE, hB⟩ := hrel
    have R1 := HR.out.keep (Nat.le_of_eq HS.out.symm) hB
    have K1 := Lib.hid (HK.out.keep (Nat.le_of_eq HS.out.symm) hB)
    have HE := Lib.hid hE
    have HB := Lib.hid hB
    clear hB hE
    by_cases hlt : k < n
    · obtain ⟨b, off, rfl, hc⟩ := R1.row hlt
      have hkl : k < es.length := by have := HL.out; omega
      have HC : Hid (R = (goodE (es.getD k default) && ((es.getD k default).i - 1 == ix + k) && decide (t ≤ (es.getD k default).t) && chainB (es.getD k default).i (es.getD k default).t (es.drop (k + 1)))) := by
        show _ = _
        rw [HE.out, drop_cons hkl]; rfl
      have KE := Lib.hid (K1.out.at hkl)
      have q0 := hc 0 (by omega)
      have q1 := hc 1 (by omega)
      have q2 := hc 2 (by omega)
      have q3 := hc 3 (by omega)
      have q4 := hc 4 (by omega)
      have q5 := hc 5 (by omega)
      have q6 := hc 6 (by omega)
      have q7 := hc 7 (by omega)
      have q8 := hc 8 (by omega)
      have q9 := hc 9 (by omega)
      have q10 := hc 10 (by omega)
      have q11 := hc 11 (by omega)
      have q12 := hc 12 (by omega)
      clear hc R1 hkl
      generalize es.getD k default = e at *
      simp only [List.getD_cons_zero, List.getD_cons_succ] at q0 q1 q2 q3 q4 q5 q6 q7 q8 q9 q10 q11 q12
      rw [Nat.add_zero] at q0
      go_wp2_with fail
      have LA : Below wr.heap.size wr (wr.alloc (.cells e.cs'.toArray 37)) := (Below.refl _ wr).alloc (Nat.le_refl _) _
      refine (refE_any e _ (KE.out.keep (Nat.le_refl _) LA)).mono ?_
      rintro r w1 ⟨rfl, hb⟩
      have hz : s ≤ wr.heap.size := by have := HB.out.size; have := HS.out; omega
      have z0 := (hb.cell (p := ⟨wr.heap.size, 0, none⟩) (by simp)).trans (show _ = some (Value.int .i64 e.i) by simp)
      have z1 := (hb.cell (p := ⟨wr.heap.size, 1, none⟩) (by simp)).trans (show _ = some (Value.int .i64 e.t) by simp)
      have HB1 : Hid (Below s w w1) := (HB.out.alloc hz _).trans (hb.mono (by simp; omega))
      clear hb q0 q1 q2 q3 q4 q5 q6 q7 q8 q9 q10 q11 q12 LA
      cases hg : goodE e
      · have HF : Hid (R = false) := by show _ = _; rw [HC.out, hg]; rfl
        clear hg
        go_wp2_with fail
        go_ret
        exact ⟨ret_bool HF.out.symm, by rw [← HS.out]; exact HB1.out⟩
      have hp := goodE_pos hg
      have hi1 := hp.1
      have hi2 := KE.out.i2
      have HG := Lib.hid hg
      clear hg hp
      by_cases c0 : e.i ≤ ix
      · have d0 : decide (e.i ≤ ix) = true := decide_eq_true c0
        have HF : Hid (R = false) := by
          show _ = _
          rw [HC.out, HG.out, show (e.i - 1 == ix + (k : Int)) = false by simp; omega]; rfl
        clear c0
        go_wp2_with fail
        go_ret
        exact ⟨ret_bool HF.out.symm, by rw [← HS.out]; exact HB1.out⟩
      have d0 : decide (e.i ≤ ix) = false := decide_eq_false c0
      by_cases c1 : e.i - ix = (k : Int) + 1
      · have d1 : (e.i - ix != (k : Int) + 1) = false := by simpa using c1
        have D1 : Hid ((e.i - 1 == ix + (k : Int)) = true) := by show _ = _; simp; omega
        have hei : Hid (ix + ((k + 1 : Nat) : Int) = e.i) := by show _ = _; omega
        clear c1
        by_cases c2 : t ≤ e.t
        · have d2 : decide (e.t < t) = false := decide_eq_false (by omega)
          have HF : Hid (R = chainB (ix + ((k + 1 : Nat) : Int)) e.t (es.drop (k + 1))) := by show _ = _; rw [HC.out, HG.out, D1.out, decide_eq_true c2, hei.out]; rfl
          clear c2
          go_wp2_with fail
          go_roundw
          case rel => exact ⟨k + 1, e.t, by omega, by go_num, rfl, HF.out, HB1.out⟩
          case measure => simp [intOf]; omega
        · have d2 : decide (e.t < t) = true := decide_eq_true (by omega)
          have HF : Hid (R = false) := by show _ = _; rw [HC.out, HG.out, D1.out, decide_eq_false c2]; rfl
          clear c2
          go_wp2_with fail
          go_ret
          exact ⟨ret_bool HF.out.symm, by rw [← HS.out]; exact HB1.out⟩
      · have d1 : (e.i - ix != (k : Int) + 1) = true := by simpa using c1
        have D1 : Hid ((e.i - 1 == ix + (k : Int)) = false) := by show _ = _; simp; omega
        have HF : Hid (R = false) := by show _ = _; rw [HC.out, HG.out, D1.out]; rfl
        clear c1
        go_wp2_with fail
        go_ret
        exact ⟨ret_bool HF.out.symm, by rw [← HS.out]; exact HB1.out⟩
    · have HT : Hid (R = true) := by
        show _ = _
        rw [HE.out, List.drop_eq_nil_of_le (by have := HL.out; omega)]; rfl
      go_wp2
      go_ret
      exact ⟨ret_bool HT.out.symm, by rw [← HS.out]; exact HB.out⟩
end Go.Proofs.Ytbgfpmnicpmieaa
