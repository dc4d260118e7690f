/- Match where the first entry differs: the log is cut and the entries laid behind it. -/
import Derived.Test.YtbgfpmnicpmieaaRMatch
namespace Go.Proofs.Ytbgfpmnicpmieaa
open Go Go.RowKit Go.Shelf Go.Sort
set_option linter.unusedVariables false
set_option linter.unusedSimpArgs false
set_option maxRecDepth 100000
set_option maxHeartbeats 1000000
theorem step_run {ops : Array Oper} {o : Oper} {a : Act} {w : World} {K : Act → World → Prop} {Q : Exit → Act → World → Prop} {E : Prop} (hgd : o.guard = none) (s x : Operand)
    (ho : o.op = .call { callee := .builtin .append, args := #[s, x], argTypes := #[22, 22] }) (vs vx : Value) (hs : a.eval s = vs) (hx : a.eval x = vx)
    (v' : Value) (w' : World) (hr : (Builtin.append_ #[22, 22] o.type #[vs, vx]).run Try.prog w = .ok v' w') (h : K (a.put o.dst v') w') :
    if Region.wanted o (yielded ops a.tmps) = true then Oper.wp Try.prog o a w K Q else E := by
  have hw : Region.wanted o (yielded ops a.tmps) = true := by simp [Region.wanted, hgd]
  rw [if_pos hw]
  unfold Oper.wp execOp
  simp only [ho, resolve, invoke, builtin, Sem.run_bind, Sem.run_pure, Result.andThen_ok, List.map_toArray, List.map_cons, List.map_nil, hs, hx, hr]
  exact h
theorem RN.take {w : World} {a : Option Addr} {n : Nat} {ps : List (Int × Int)} (h : RN w a n ps) {k : Nat} (hk : k ≤ n) : RN w a k (ps.take k) := by
  refine ⟨by rw [List.length_take, h.1]; omega, ?_⟩
  rcases h.2 with h0 | ⟨b, off, e, hc⟩
  · exact .inl (by omega)
  · refine .inr ⟨b, off, e, fun j hj c hc' => ?_⟩
    have e : (ps.take k).getD j (0, 0) = ps.getD j (0, 0) := by rw [List.getD_eq_getElem?_getD, List.getD_eq_getElem?_getD, List.getElem?_take, if_pos hj]
    rw [e]
    exact hc j (by omega) c hc'
theorem LB.s2 {w b l} (h : LB w b l) (a : Option Addr) (n c : Nat) : LB (w.setCell ⟨b, 2, none⟩ (.slice a n c)) b { l with a := a, n := n, c := c } := by
  have := heap_setCell_same w b 2 _ 64 (.slice a n c) h
  unfold LB; rw [this]; rfl
theorem LB.s5 {w b l} (h : LB w b l) (s : Int) : LB (w.setCell ⟨b, 5, none⟩ (.int .i64 s)) b { l with sur := s } := by
  have := heap_setCell_same w b 5 _ 64 (.int .i64 s) h
  unfold LB; rw [this]; rfl
theorem RN.set {w : World} {B off n : Nat} {ps : List (Int × Int)} (h : RN w (some ⟨B, off, none⟩) n ps) {b i : Nat} (hne : B ≠ b) (v : Value) : RN (w.setCell ⟨b, i, none⟩ v) (some ⟨B, off, none⟩) n ps := by
  refine ⟨h.1, ?_⟩
  rcases h.2 with h0 | ⟨b', off', e, hc⟩
  · exact .inl h0
  · cases e
    refine .inr ⟨B, off, rfl, fun j hj c hc' => ?_⟩
    rw [World.cell?_setCell_other _ _ _ _ (by intro h; cases h; exact hne rfl)]
    exact hc j hj c hc'
theorem match_first (b : Nat) (l : Lg) (ps : List (Int × Int)) (a : Option Addr) (n c : Nat) (ys : List (Int × Int)) (index term : Int) (k : Nat) (w : World)
    (hb : LB w b l) (hr : RN w l.a l.n ps) (hlc : l.n ≤ l.c) (ho : Ok l ps) (hy : RN w a n ys) (hn : 0 < n) (hn' : n ≤ 1000) (hnc : n ≤ c) (hk : 0 < k) (hkn : k ≤ l.n)
    (hi : index = l.ix + k) (hterm : termF l ps index = (term, 0)) (hrow : ∀ j, j < n → (ys.getD j (0, 0)).1 = index + 1 + j) (hter : ∀ j, j < n → termAt term ys j ≤ (ys.getD j (0, 0)).2 ∧ 1 ≤ (ys.getD j (0, 0)).2)
    (hoth : othB l ps (ys.getD 0 (0, 0)).1 (ys.getD 0 (0, 0)).2 = true) (hcom : l.com ≤ index) (hix : index ≤ 1099511627776) :
    Calls Try.prog 12 #[.pointer (some ⟨b, 0, none⟩), .int .i64 index, .int .i64 term, .slice a n c] w fun e w' => ∃ a' c', e = .returned (.tuple #[.int .i64 (index + n), .bool true]) ∧ LB w' b { l with a := a', n := k + n, c := c', sur := min l.sur index } ∧ RN w' a' (k + n) (ps.take k ++ ys) ∧ k + n ≤ c' ∧ Below b w w' := by
  have L0 : Hid (Below w.heap.size w (w.alloc (.cells #[.pointer (some ⟨b, 0, none⟩)] 27))) := (Below.refl _ w).alloc (Nat.le_refl _) _
  have hbl := hb.lt
  have hlo := ho.lo
  have hsm := ho.small
  have B0 := Lib.hid (hb.below (Nat.le_refl _) L0.out)
  have R0 := Lib.hid (hr.keep (Nat.le_refl _) L0.out)
  have Y0 := Lib.hid (hy.keep (Nat.le_refl _) L0.out)
  have HO := Lib.hid ho
  have HTM := Lib.hid hterm
  have HROW := Lib.hid hrow
  have HTER := Lib.hid hter
  have HOTH := Lib.hid hoth
  have HAT : Hid (atN ps (index + 1) = k) := by show _ = _; rw [ho.at]; omega
  have h1 : (ys.getD 0 (0, 0)).1 = index + 1 := by have := hrow 0 hn; simpa using this
  have H1 := Lib.hid h1
  clear hb hr ho hy hterm hrow hter hoth h1
  have HI := Lib.hid hi
  clear hi
  go_enter Try.func12, Try.ntmps12
  go_wp2_with fail
  refine (term_any b l ps index _ B0.out R0.out.ep HO.out).mono ?_
  rintro e w1 ⟨rfl, hbw⟩
  rw [HTM.out]
  have z1 := (hbw.cell (p := ⟨w.heap.size, 0, none⟩) (by simp)).trans (show _ = some (Value.pointer (some ⟨b, 0, none⟩)) by simp)
  have L1 := Lib.hid (L0.out.trans (hbw.mono L0.out.size))
  have B1 := Lib.hid (B0.out.below (Nat.le_refl _) hbw)
  have R1 := Lib.hid (R0.out.keep (Nat.le_refl _) hbw)
  have Y1 := Lib.hid (Y0.out.keep (Nat.le_refl _) hbw)
  clear hbw B0 R0 Y0
  have e1 : (term != term) = false := by simp
  go_wp2_with fail
  refine (chain_nop index term a n c ys _ Y1.out hn' (by have := HI.out; omega) hix HROW.out HTER.out).mono ?_
  rintro e w2 ⟨rfl, hbw⟩
  have z2 := (hbw.cell (cell_block_lt z1)).trans z1
  have L2 := Lib.hid (L1.out.trans (hbw.mono L1.out.size))
  have B2 := Lib.hid (B1.out.below (Nat.le_refl _) hbw)
  have R2 := Lib.hid (R1.out.keep (Nat.le_refl _) hbw)
  have Y2 := Lib.hid (Y1.out.keep (Nat.le_refl _) hbw)
  clear hbw B1 R1 Y1 z1 e1
  go_wp2_with fail
  refine (idx_first w.heap.size b l ps a n c ys _ z2 B2.out R2.out.ep HO.out Y2.out hn HOTH.out).mono ?_
  rintro e w3 ⟨rfl, hbw⟩
  have z3 := (hbw.cell (cell_block_lt z2)).trans z2
  have L3 := Lib.hid (L2.out.trans (hbw.mono L2.out.size))
  have B3 := Lib.hid (B2.out.below (Nat.le_refl _) hbw)
  have R3 := Lib.hid (R2.out.keep (Nat.le_refl _) hbw)
  have Y3 := Lib.hid (Y2.out.keep (Nat.le_refl _) hbw)
  clear hbw B2 R2 Y2 z2
  have y3 := Y3.out.2
  rcases y3 with h0 | ⟨yb, yo, rfl, hc⟩
  · omega
  have q0 := hc 0 hn 0 (by omega)
  rw [H1.out] at q0
  simp only [List.getD_cons_zero, Nat.zero_mul, Nat.add_zero] at q0
  clear hc
  have c3 := B3.out.c3
  have f3 : (0 : Int) < (n : Int) := by omega
  have f4 : decide (index + 1 ≤ l.com) = false := decide_eq_false (by omega)
  go_wp2_with fail
  refine (at_any b l ps (index + 1) _ B3.out R3.out.ep HO.out.small HO.out.up).mono ?_
  rintro e w4 ⟨rfl, hbw⟩
  rw [HAT.out]
  have z4 := (hbw.cell (cell_block_lt z3)).trans z3
  have L4 := Lib.hid (L3.out.trans (hbw.mono L3.out.size))
  have B4 := Lib.hid (B3.out.below (Nat.le_refl _) hbw)
  have R4 := Lib.hid (R3.out.keep (Nat.le_refl _) hbw)
  have Y4 := Lib.hid (Y3.out.keep (Nat.le_refl _) hbw)
  clear hbw B3 R3 Y3 z3 q0 c3 f4
  go_upto_region 11 with fail
  rcases R4.out.2 with h0 | ⟨lb, lo, ea, hc⟩
  · omega
  clear hc
  rw [ea] at R4
  have R5 := (R4.out.take hkn).keep (Nat.le_refl _) ((Below.refl w4.heap.size w4).drew)
  have Y5 := Y4.out.keep (Nat.le_refl _) ((Below.refl w4.heap.size w4).drew)
  have c2 := B4.out.c2
  rw [ea] at c2
  have fz := B4.out.frozen 2
  obtain ⟨c', w5, hr5, hR5, hb5, hc5⟩ := run_app 22 ⟨lb, lo, none⟩ k (ps.take k) ⟨yb, yo, none⟩ n c ys w4.drew R5 Y5 (by omega) hn' hn
  have HR5 := Lib.hid hr5
  have HRR := Lib.hid hR5
  have HB5 := Lib.hid hb5
  have HC5 := Lib.hid hc5
  have B5 := Lib.hid (B4.out.below (Nat.le_refl _) ((Below.refl w4.heap.size w4).drew.trans hb5))
  clear hr5 hR5 hb5 hc5 R5 Y5
  have hkc : k ≤ l.c := by omega
  have hk0 : ¬ l.c = 0 := by omega
  go_cut [67] (fun v wx => v = .slice (some ⟨w4.drew.heap.size, 0, none⟩) (k + n) c' ∧ wx = w5.setCell ⟨b, 2, none⟩ (.slice (some ⟨w4.drew.heap.size, 0, none⟩) (k + n) c'))
  case first =>
    have z5 := (HB5.out.cell (cell_block_lt z4)).trans z4
    have c5 := B5.out.c2
    have fz5 := B5.out.frozen 2
    go_region_law (refine step_run rfl _ _ rfl (.slice (some ⟨lb, lo, none⟩) k k) (.slice (some ⟨yb, yo, none⟩) n c) rfl rfl _ _ HR5.out ?_)
    all_goals (go_wp2_with fail; go_meet; exact ⟨rfl, rfl⟩)
  case rest =>
    obtain ⟨rfl, rfl⟩ := hcut
    have hne : w4.drew.heap.size ≠ b := by have := L4.out.size; show w4.heap.size ≠ b; omega
    have z5 := (HB5.out.cell (cell_block_lt z4)).trans z4
    have z6 : (w5.setCell ⟨b, 2, none⟩ (.slice (some ⟨w4.drew.heap.size, 0, none⟩) (k + n) c')).cell? ⟨w.heap.size, 0, none⟩ = some (.pointer (some ⟨b, 0, none⟩)) := by
      rw [World.cell?_setCell_other _ _ _ _ (by intro h; cases h <;> omega)]; exact z5
    have B6 := Lib.hid (B5.out.s2 (some ⟨w4.drew.heap.size, 0, none⟩) (k + n) c')
    have R6 := Lib.hid (HRR.out.set (i := 2) hne (.slice (some ⟨w4.drew.heap.size, 0, none⟩) (k + n) c'))
    have L5 := L4.out.drew.trans (HB5.out.mono L4.out.size)
    have L6 : Hid (Below b w (w5.setCell ⟨b, 2, none⟩ (.slice (some ⟨w4.drew.heap.size, 0, none⟩) (k + n) c'))) := (L5.mono (show b ≤ w.heap.size by omega)).setCell (p := ⟨b, 2, none⟩) (Nat.le_refl _) _
    clear z4 z5 c2 fz L5 HR5 HRR HB5 B5 R4 Y4 B4 L4
    generalize w5.setCell ⟨b, 2, none⟩ (.slice (some ⟨w4.drew.heap.size, 0, none⟩) (k + n) c') = w6 at *
    generalize w4.drew.heap.size = nb at *
    have c5 := B6.out.c5
    have fz5 := B6.out.frozen 5
    have hix0 : 0 ≤ index := by have := HI.out; omega
    have hw0 : wrap64 index = index := IntWalk.wrap64_in _ ⟨by omega, by omega⟩
    have hw2 : IntKind.i64.wrap (index + (n : Int)) = index + n := IntWalk.i64_in _ (by have := HI.out; omega)
    clear L1 L2 L3 HO HTM HROW HTER HOTH HAT H1
    dsimp only at c5
    go_upto_region 12 with fail
    go_cut [78] (fun v wx => wx = (w6.setCell ⟨b, 5, none⟩ (.int .i64 (min l.sur index))).drew)
    case first =>
      go_region
      all_goals (go_wp2_with fail; go_meet; rfl)
    case rest =>
      subst hcut
      go_wp2_with fail
      go_ret2
      exact ⟨_, _, rfl, (B6.out.s5 (min l.sur index)), (R6.out.set (i := 5) hne (.int .i64 (min l.sur index))), HC5.out, (L6.out.setCell (p := ⟨b, 5, none⟩) (Nat.le_refl _) _).drew⟩
end Go.Proofs.Ytbgfpmnicpmieaa
