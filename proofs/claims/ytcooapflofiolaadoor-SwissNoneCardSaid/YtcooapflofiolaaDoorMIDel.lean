/- Delete, over maps of integers. -/
import Derived.Test.YtcooapflofiolaaDoorMIPut
import Derived.Sort.CutIn
namespace Go.Proofs.YtcooapflofiolaaDoor.MI
open Go Go.RowKit Go.Shelf
attribute [local go_sem] Oper.semAt_some
set_option linter.unusedVariables false
set_option linter.unusedSimpArgs false
set_option maxRecDepth 100000
set_option maxHeartbeats 4000000
theorem delete_any (p : Pl) (k0 k1 : BitVec 64) (m : Mp VT) (key : ByteArray) (w : World) (h : At w p k0 k1 m) (I : MInv (hashN k0 k1) m) (hkey : key.size ≤ maxLen) (hS : Sh w) (hS0 : ¬ p.own 0) :
    Calls Tryd.prog 56 #[.pointer (some ⟨p.b, 0, none⟩), .string key] w fun e w' => e = .returned (.bool (find (hashN k0 k1) m key).isSome) ∧ Turned w p k0 k1 (del (hashN k0 k1) m key) w' := by
  have HM := Lib.hid (made_any p k0 k1 m w h I.len.1)
  have HFi := Lib.hid (find_any p k0 k1 m key hkey w h I)
  have HA := Lib.hid h
  have HI := Lib.hid I
  have HSh := Lib.hid hS
  have HS0 := Lib.hid hS0
  have hl := I.len
  have hmx := I.mx
  have htb : m.tb ≤ 7168 := by have := I.ld; omega
  clear h I hS hS0 hkey
  cases hf : find (hashN k0 k1) m key with
  | none =>
    have HP : Hid (del (hashN k0 k1) m key = m) := by show _ = _; exact del_none hf
    rw [hf] at HFi
    clear hf
    go_enter Tryd.func56, Tryd.ntmps56
    go_wp2_with fail
    refine HM.out.mono ?_
    rintro e w' ⟨rfl, rfl⟩
    go_wp2_with fail
    refine HFi.out.mono ?_
    rintro e w1 ⟨rfl, hb⟩
    have A1 := Lib.hid (HA.out.below (Nat.le_refl _) hb)
    have HB1 := Lib.hid hb
    clear hb
    rw [show toI none = -1 from rfl]
    go_wp2
    go_ret
    rw [HP.out]
    exact ⟨rfl, p, rfl, A1.out, fun j hj => .inl hj, Kept.of HB1.out (Nat.le_refl _)⟩
  | some i =>
    obtain ⟨hi, hfc, _⟩ := find_some HI.out hf
    have hpos : 0 < m.n := by
      have := cnt_set (p := fun i => decide (m.c i < 128)) (q := fun j => if j = i then false else decide (m.c j < 128)) hi (fun j hj hne => by simp [hne])
      rw [HI.out.cn]; simp [hfc] at this; omega
    have HP : Hid (del (hashN k0 k1) m key = delAt m i) := by show _ = _; unfold del; rw [hf]
    rw [hf] at HFi
    clear hf hfc
    obtain ⟨e, he⟩ : ∃ e : Nat, e = i / 8 := ⟨_, rfl⟩
    have heg : e < m.ws.length := by omega
    have hdiv : ((i : Int).tdiv 8) = (e : Int) := by rw [Int.tdiv_eq_ediv_of_nonneg (by omega)]; omega
    have hdiv2 : ((i : Int) / 8) = (e : Int) := by omega
    have hv := HI.out.wl e
    obtain ⟨v, hvv⟩ : ∃ v, v = m.w e := ⟨_, rfl⟩
    rw [← hvv] at hv
    have HVV := Lib.hid hvv
    have HV := Lib.hid hv
    have HE := Lib.hid he
    obtain ⟨c, hc⟩ : ∃ c : Nat, c = if empB m e then 128 else 254 := ⟨_, rfl⟩
    obtain ⟨t, ht⟩ : ∃ t : Nat, t = if empB m e then m.tb else m.tb + 1 := ⟨_, rfl⟩
    have hcl : c < 256 := by rw [hc]; split <;> omega
    have HCL := Lib.hid hcl
    have HCC := Lib.hid hc
    have HT := Lib.hid ht
    have HEM := Lib.hid (emp_mch (m := m) (e := e) hvv)
    have HM2 : Hid (∀ W, Calls Tryd.prog 67 #[.int .u64 (v : Int)] W (fun e w' => e = .returned (.int .u8 (mch v 128 : Nat)) ∧ W = w')) := fun W => empties_any v hv W
    have HC3 : Hid (∀ W, Sh W → CallsIn Fence.wide 3 Tryd.prog 68 #[.int .u64 (v : Int), .int .i64 (i : Int), .int .u8 (c : Int)] W (fun e w' => e = .returned (.int .u64 (st v (i % 8) c : Nat)) ∧ w' = W)) := fun W hW => callsIn_wide.2 ((set_any v c (i : Int) HV.out HCL.out W hW).mono fun _ _ ⟨h1, h2⟩ => ⟨by rw [h1, show ix (i : Int) = i % 8 by unfold ix; omega], h2.symm⟩)
    clear hvv hv he hc ht hcl
    go_enter Tryd.func56, Tryd.ntmps56
    go_wp2_with fail
    refine HM.out.mono ?_
    rintro e' w' ⟨rfl, rfl⟩
    go_wp2_with fail
    refine HFi.out.mono ?_
    rintro e' w1 ⟨rfl, hb⟩
    have A1 := Lib.hid (HA.out.below (Nat.le_refl _) hb)
    have HB1 := Lib.hid hb
    have S1 : Hid (Sh w1) := HSh.out.below hb
    have c2 := A1.out.c2
    have cw := A1.out.wc heg
    rw [← HVV.out] at cw
    clear hb
    rw [show toI (some i) = (i : Int) from rfl]
    have heg2 : (e : Int) < (m.ws.length : Int) := by omega
    go_upto_if 26 with (go_at_call 67; refine (HM2.out _).mono ?_; rintro e' w' ⟨rfl, rfl⟩)
    go_cut [7] from 26 to 33 (fun cv wx => cv = .int .u8 (c : Int) ∧ At wx p k0 k1 { m with tb := t } ∧ Kept p.own w1 wx)
    case first =>
      have c5 := A1.out.c5
      have f5 := A1.out.fz 5
      by_cases h0 : mch v 128 = 0
      · have hd : (((mch v 128 : Nat) : Int) == 0) = true := by simpa using h0
        have he : empB m e = false := by rw [HEM.out]; simp [h0]
        have hc : c = 254 := by rw [HCC.out, he]; rfl
        have ht : t = m.tb + 1 := by rw [HT.out, he]; rfl
        have hw : (m.tb : Int) + 1 = ((m.tb + 1 : Nat) : Int) := by omega
        have X1 := Lib.hid hc
        have X2 := Lib.hid ht
        have X3 := Lib.hid hw
        clear h0 he hc ht hw
        rw [hd]
        go_wp2
        go_meet
        rw [X3.out, X1.out, X2.out]
        exact ⟨rfl, A1.out.setT _, (Kept.refl _ _).setCell (p := ⟨p.b, 5, none⟩) (.inl (.inl rfl)) _⟩
      · have hd : (((mch v 128 : Nat) : Int) == 0) = false := by simpa using h0
        have he : empB m e = true := by rw [HEM.out]; simp [h0]
        have hc : c = 128 := by rw [HCC.out, he]; rfl
        have ht : t = m.tb := by rw [HT.out, he]; rfl
        have X1 := Lib.hid hc
        have X2 := Lib.hid ht
        clear h0 he hc ht
        rw [hd]
        go_wp2
        go_meet
        rw [X1.out, X2.out]
        exact ⟨rfl, A1.out, Kept.refl _ _⟩
    case rest =>
      obtain ⟨rfl, hA3, hK3⟩ := hcut
      have A3 := Lib.hid hA3
      have K3 := Lib.hid hK3
      have z2 := hA3.c2
      have z3 := hA3.c3
      have zw := hA3.wc (j := e) heg
      have fw := hA3.wf e
      have SX : Hid (Sh wc) := fun j hj => kept_cell hK3 (S1.out j hj) HS0.out
      dsimp only at z2 z3 zw
      rw [show Mp.w { m with tb := t } e = v from HVV.out.symm] at zw
      have HC4 : Hid (∀ k, CallsIn Fence.wide 3 Tryd.prog 68 #[.int .u64 (v : Int), .int .i64 (i : Int), .int .u8 (c : Int)] (wc.drewN k) (fun e w' => e = .returned (.int .u64 (st v (i % 8) c : Nat)) ∧ w' = wc.drewN k)) := fun k => HC3.out _ SX.out
      clear hA3 hK3 c2 cw
      have hfn4 : Fence.wide.fn 68 := trivial
      have hn2 : 1 ≤ 4 := by omega
      go_upto_region 10 with fail
      refine (wpIn_wide (n := 4)).1 ?_
      refine region_tail_r 16 (by kernel_rfl) (by kernel_rfl) (by kernel_rfl) ?_
      simp only [List.take_succ_cons, List.take_zero, List.drop_succ_cons, List.drop_zero]
      repeat (gi_big_quiet_step ((gi_at_call 68; exact CallsIn.quiet_of_same (HC4.out _))))
      refine wpQuietIn_nil ?_
      intro _ hw'
      obtain ⟨nq, rfl⟩ := hw'
      have K4 : Hid (Kept p.own w1 ((wc.drewN nq).setCell ⟨p.bw, e, none⟩ (.int .u64 (st v (i % 8) c : Nat)))) := Kept.setCell (w := wc.drewN nq) ⟨K3.out.os, K3.out.tape, K3.out.output, K3.out.size, K3.out.block⟩ (p := ⟨p.bw, e, none⟩) (.inl (.inr (.inl rfl))) _
      have A4 : Hid (At ((wc.drewN nq).setCell ⟨p.bw, e, none⟩ (.int .u64 (st v (i % 8) c : Nat))) p k0 k1 { m with tb := t, ws := m.ws.set e (st v (i % 8) c) }) := MA.setW (w := wc.drewN nq) (A3.out.blocks (fun j hj => rfl)) heg
      gi_upto_region 11 with fail
      generalize (wc.drewN nq).setCell ⟨p.bw, e, none⟩ (.int .u64 (st v (i % 8) c : Nat)) = X1 at *
      have y3 := A4.out.c3
      have f30 := A4.out.sf (i * 2)
      have f31 := A4.out.sf (i * 2 + 1)
      have hil : i < 8 * (m.ws.set e (st v (i % 8) c)).length := by rw [List.length_set]; exact hi
      have sk := A4.out.sk (i := i) hil
      have sv := A4.out.sv (i := i) hil
      dsimp only at y3
      rw [List.length_set] at y3
      have hi' : (i : Int) < 8 * (m.ws.length : Int) := by omega
      have A5 : Hid (At ((X1.setCell ⟨p.bs, i * 2, none⟩ (.string ⟨#[]⟩)).setCell ⟨p.bs, i * 2 + 1, none⟩ (.int .i64 0)) p k0 k1 { m with tb := t, ws := m.ws.set e (st v (i % 8) c), ss := m.ss.set i default }) :=
        MA.setS (w := X1) A4.out hil (by show m.ss.length = 8 * (m.ws.set e (st v (i % 8) c)).length; rw [List.length_set]; exact HI.out.sl) default
      have K5 : Hid (Kept p.own w1 ((X1.setCell ⟨p.bs, i * 2, none⟩ (.string ⟨#[]⟩)).setCell ⟨p.bs, i * 2 + 1, none⟩ (.int .i64 0))) :=
        (K4.out.setCell (p := ⟨p.bs, i * 2, none⟩) (.inl (.inr (.inr rfl))) _).setCell (p := ⟨p.bs, i * 2 + 1, none⟩) (.inl (.inr (.inr rfl))) _
      go_upto_region 12 with fail
      generalize (X1.setCell ⟨p.bs, i * 2, none⟩ (.string ⟨#[]⟩)).setCell ⟨p.bs, i * 2 + 1, none⟩ (.int .i64 0) = X2 at *
      have z4 := A5.out.c4
      have f4 := A5.out.fz 4
      dsimp only at z4
      have hnx : (m.n : Int) - 1 = ((m.n - 1 : Nat) : Int) := by omega
      have HNX := Lib.hid hnx
      have K6 := Lib.hid (K5.out.setCell (p := ⟨p.b, 4, none⟩) (.inl (.inl rfl)) (.int .i64 ((m.n - 1 : Nat) : Int)))
      have A6 := Lib.hid (A5.out.setN (m.n - 1))
      have hfin : delAt m i = { m with tb := t, ws := m.ws.set e (st v (i % 8) c), ss := m.ss.set i default, n := m.n - 1 } := by
        unfold delAt
        rw [← HE.out, ← HVV.out, ← HCC.out, ← HT.out]
      have HFN := Lib.hid hfin
      clear hnx hfin y3 f30 f31 sk sv z2 z3 zw fw
      go_wp2
      rw [HNX.out]
      go_ret
      rw [HP.out, HFN.out]
      exact ⟨rfl, p, rfl, A6.out, fun j hj => .inl hj, (Kept.of HB1.out (Nat.le_refl _)).trans K6.out⟩
end Go.Proofs.YtcooapflofiolaaDoor.MI
