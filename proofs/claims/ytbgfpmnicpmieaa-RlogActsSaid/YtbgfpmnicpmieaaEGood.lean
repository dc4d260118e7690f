/- Entries: may they be, as the code has it. -/
import Derived.Test.YtbgfpmnicpmieaaEEnt
namespace Go.Proofs.Ytbgfpmnicpmieaa
open Go Go.RowKit Go.Shelf Go.Sort
set_option linter.unusedVariables false
set_option linter.unusedSimpArgs false
set_option maxRecDepth 100000
set_option maxHeartbeats 1000000
theorem goodE_any (e : Ent) (w : World) (h : EK w e) : Calls Try.prog 61 #[e.v] w fun r w' => r = .returned (.bool (goodE e)) ∧ Below w.heap.size w w' := by
  have HG : Hid (goodE e = if e.i < 1 then false else if e.t < 1 then false else kindB e) := rfl
  have HK : Hid (kindB e = if e.k = 1 then bareB e && noneB e else if e.k = 2 then noneB e && goodC e.ck e.cs e.cq e.a e.b e.c e.d e.l else if e.k = 3 then bareB e && goodB e.V e.L else false) := rfl
  have HN : Hid (noneB e = (((e.vn + e.ln : Nat) : Int) == 0)) := by show _ = _; rw [noneB, h.v.1, h.l.1]
  have HB : Hid (bareB e = cmdB e.ck e.cs e.cq e.a e.b e.c e.d e.l 0 0 0 eB eB eB eB 0) := rfl
  have L1 : Hid (Below w.heap.size w (w.alloc (.cells e.cs'.toArray 37))) := (Below.refl _ w).alloc (Nat.le_refl _) _
  have HE := Lib.hid (h.keep (Nat.le_refl _) L1.out)
  have Q32 := Lib.hid comEq
  clear h
  generalize hge : goodE e = ge at *
  clear hge
  generalize hkb : kindB e = kb at *
  clear hkb
  generalize hnb : noneB e = nb at *
  clear hnb
  generalize hbb : bareB e = bb at *
  clear hbb
  obtain ⟨i, t, k, ck, cs, cq, a, b, c, d, l, va, vn, vc, la, ln, lc, V, L⟩ := e
  dsimp only at HG HK HN HB L1 HE
  have q32 : ∀ w, (binOp .eql 32 (cmdV ck cs cq a b c d l) (cmdV 0 0 0 eB eB eB eB 0)).run Try.prog w = .ok (.bool bb) w := fun w => by rw [HB.out]; exact Q32.out _ _ _ _ _ _ _ _ _ _ _ _ _ _ _ _ w
  clear Q32
  go_enter Try.func61, Try.ntmps61
  by_cases c1 : i < 1
  · have d1 : decide (i < 1) = true := decide_eq_true c1
    have G : Hid (ge = false) := by show _ = _; rw [HG.out, if_pos c1]
    clear c1
    go_wp2_with fail
    clear q32
    go_ret
    exact ⟨ret_bool G.out.symm, L1.out⟩
  have G1 : Hid (ge = if t < 1 then false else kb) := by show _ = _; rw [HG.out, if_neg c1]
  have d1 : decide (i < 1) = false := decide_eq_false c1
  clear c1
  by_cases c2 : t < 1
  · have d2 : decide (t < 1) = true := decide_eq_true c2
    have G : Hid (ge = false) := by show _ = _; rw [G1.out, if_pos c2]
    clear c2
    go_wp2_with fail
    clear q32
    go_ret
    exact ⟨ret_bool G.out.symm, L1.out⟩
  have G2 : Hid (ge = kb) := by show _ = _; rw [G1.out, if_neg c2]
  have d2 : decide (t < 1) = false := decide_eq_false c2
  clear c2
  by_cases c3 : k = 1
  · have G : Hid (ge = (bb && nb)) := by show _ = _; rw [G2.out, HK.out, if_pos c3]
    have C3 := Lib.hid c3
    have d3 : (k == 1) = true := by simpa using c3
    clear c3
    cases bb
    · go_wp2_with fail
      clear q32
      go_ret
      exact ⟨ret_bool (by rw [G.out]; rfl), L1.out⟩
    · go_wp2_with fail
      clear q32
      refine (nope_any va vn vc la ln lc _ HE.out.vm HE.out.lm).mono ?_
      rintro e w1 ⟨rfl, hb⟩
      have L2 := Lib.hid (L1.out.trans (hb.mono L1.out.size))
      clear hb
      rw [← HN.out]
      go_wp2_with fail
      go_ret
      exact ⟨ret_bool (by rw [G.out]; rfl), L2.out⟩
  have d3 : (k == 1) = false := by simpa using c3
  by_cases c4 : k = 2
  · have G : Hid (ge = (nb && goodC ck cs cq a b c d l)) := by show _ = _; rw [G2.out, HK.out, if_neg c3, if_pos c4]
    have C4 := Lib.hid c4
    have d4 : (k == 2) = true := by simpa using c4
    clear c3 c4
    go_wp2_with fail
    refine (nope_any va vn vc la ln lc _ HE.out.vm HE.out.lm).mono ?_
    rintro e w1 ⟨rfl, hb⟩
    have z3 := (hb.cell (p := ⟨w.heap.size, 3, none⟩) (by simp)).trans (show _ = some (Value.int .i64 ck) by simp)
    have z4 := (hb.cell (p := ⟨w.heap.size, 4, none⟩) (by simp)).trans (show _ = some (Value.int .i64 cs) by simp)
    have z5 := (hb.cell (p := ⟨w.heap.size, 5, none⟩) (by simp)).trans (show _ = some (Value.int .i64 cq) by simp)
    have z6 := (hb.cell (p := ⟨w.heap.size, 6, none⟩) (by simp)).trans (show _ = some (Value.string a) by simp)
    have z7 := (hb.cell (p := ⟨w.heap.size, 7, none⟩) (by simp)).trans (show _ = some (Value.string b) by simp)
    have z8 := (hb.cell (p := ⟨w.heap.size, 8, none⟩) (by simp)).trans (show _ = some (Value.string c) by simp)
    have z9 := (hb.cell (p := ⟨w.heap.size, 9, none⟩) (by simp)).trans (show _ = some (Value.string d) by simp)
    have z10 := (hb.cell (p := ⟨w.heap.size, 10, none⟩) (by simp)).trans (show _ = some (Value.int .i64 l) by simp)
    have L2 := Lib.hid (L1.out.trans (hb.mono L1.out.size))
    clear hb q32
    rw [← HN.out]
    cases nb
    · go_wp2_with fail
      go_ret
      exact ⟨ret_bool (by rw [G.out]; rfl), L2.out⟩
    · go_wp2_with fail
      refine (goodC_any ck cs cq a b c d l _).mono ?_
      rintro e w2 ⟨rfl, hb⟩
      have L3 := Lib.hid (L2.out.trans (hb.mono L2.out.size))
      clear hb z3 z4 z5 z6 z7 z8 z9 z10
      go_wp2_with fail
      go_ret
      exact ⟨ret_bool (by rw [G.out]; rfl), L3.out⟩
  have d4 : (k == 2) = false := by simpa using c4
  by_cases c5 : k = 3
  · have G : Hid (ge = (bb && goodB V L)) := by show _ = _; rw [G2.out, HK.out, if_neg c3, if_neg c4, if_pos c5]
    have C5 := Lib.hid c5
    have d5 : (k == 3) = true := by simpa using c5
    clear c3 c4 c5
    cases bb
    · go_wp2_with fail
      clear q32
      go_ret
      exact ⟨ret_bool (by rw [G.out]; rfl), L1.out⟩
    · go_wp2_with fail
      clear q32
      refine (good_any va vn vc V la ln lc L _ HE.out.v HE.out.l (Nat.le_trans HE.out.vm (by omega)) (Nat.le_trans HE.out.lm (by omega))).mono ?_
      rintro e w1 ⟨rfl, hb⟩
      have L2 := Lib.hid (L1.out.trans (hb.mono L1.out.size))
      clear hb
      go_wp2_with fail
      go_ret
      exact ⟨ret_bool (by rw [G.out]; rfl), L2.out⟩
  have d5 : (k == 3) = false := by simpa using c5
  have G : Hid (ge = false) := by show _ = _; rw [G2.out, HK.out, if_neg c3, if_neg c4, if_neg c5]
  clear c3 c4 c5
  go_wp2_with fail
  clear q32
  go_ret
  exact ⟨ret_bool G.out.symm, L1.out⟩
end Go.Proofs.Ytbgfpmnicpmieaa
