/- Put, over maps of integers. -/
import Derived.Test.YtcooapflofiolaaDoorMIRe
namespace Go.Proofs.YtcooapflofiolaaDoor.MI
open Go Go.RowKit Go.Shelf
set_option linter.unusedVariables false
set_option linter.unusedSimpArgs false
set_option maxRecDepth 100000
set_option maxHeartbeats 4000000
/-- What becomes of a map: it lies where it lay, or in new blocks. -/
def Turned (w : World) (p : Pl) (k0 k1 : BitVec 64) (m' : Mp VT) (w' : World) : Prop := ∃ q : Pl, q.b = p.b ∧ At w' q k0 k1 m' ∧ (∀ j, q.own j → p.own j ∨ w.heap.size ≤ j) ∧ Kept p.own w w'
theorem put_any (p : Pl) (k0 k1 : BitVec 64) (m : Mp VT) (key : ByteArray) (u : VT) (w : World) (h : At w p k0 k1 m) (I : MInv (hashN k0 k1) m) (hks : MKeys m) (hkey : key.size ≤ maxLen) (hS : Sh w) (hS0 : ¬ p.own 0) :
    Calls Tryd.prog 54 #[.pointer (some ⟨p.b, 0, none⟩), .string key, val u] w fun e w' => e = .returned (.tuple #[.bool (putB (hashN k0 k1) m key), .int .i64 (putE (hashN k0 k1) m key)]) ∧ Turned w p k0 k1 (put (hashN k0 k1) m key u) w' := by
  have HM := Lib.hid (made_any p k0 k1 m w h I.len.1)
  have HFi := Lib.hid (find_any p k0 k1 m key hkey w h I)
  have HA := Lib.hid h
  have HI := Lib.hid I
  have HKS := Lib.hid hks
  have HSh := Lib.hid hS
  have HS0 := Lib.hid hS0
  have HKey := Lib.hid hkey
  have hl := I.len
  have hmx := I.mx
  clear h I hks hS hS0 hkey
  cases hf : find (hashN k0 k1) m key with
  | some i =>
    obtain ⟨hi, _, hk⟩ := find_some HI.out hf
    have HP : Hid (put (hashN k0 k1) m key u = { m with ss := m.ss.set i ((m.s i).1, u) }) := by show _ = _; unfold put; rw [hf, hk]
    have HB : Hid (putB (hashN k0 k1) m key = true ∧ putE (hashN k0 k1) m key = 0) := by constructor <;> simp [putB, putE, hf]
    rw [hf] at HFi
    clear hf hk
    go_enter Tryd.func54, Tryd.ntmps54
    go_wp2_with fail
    refine HM.out.mono ?_
    rintro e w' ⟨rfl, rfl⟩
    go_wp2_with fail
    refine HFi.out.mono ?_
    rintro e w1 ⟨rfl, hb⟩
    have A1 := Lib.hid (HA.out.below (Nat.le_refl _) hb)
    have HB1 := Lib.hid hb
    have c3 := A1.out.c3
    have sv := A1.out.sv hi
    have fv := A1.out.sf (i * 2 + 1)
    have hi' : (i : Int) < 8 * (m.ws.length : Int) := by omega
    clear hb
    rw [show toI (some i) = (i : Int) from rfl]
    go_wp2
    go_ret2
    rw [HB.out.1, HB.out.2, HP.out]
    exact ⟨rfl, p, rfl, A1.out.setV hi HI.out.sl u, fun j hj => .inl hj, (Kept.of HB1.out (Nat.le_refl _)).setCell (p := ⟨p.bs, i * 2 + 1, none⟩) (.inl (.inr (.inr rfl))) _⟩
  | none =>
    have HNF := Lib.hid hf
    by_cases hn : 2000 ≤ m.n
    · have HP : Hid (put (hashN k0 k1) m key u = m) := by show _ = _; exact put_full hf hn
      have HB : Hid (putB (hashN k0 k1) m key = false ∧ putE (hashN k0 k1) m key = 7) := by constructor <;> simp [putB, putE, hf, hn]
      have hd : decide ((2000 : Int) ≤ (m.n : Int)) = true := decide_eq_true (by omega)
      rw [hf] at HFi
      clear hf
      go_enter Tryd.func54, Tryd.ntmps54
      go_wp2_with fail
      refine HM.out.mono ?_
      rintro e w' ⟨rfl, rfl⟩
      go_wp2_with fail
      refine HFi.out.mono ?_
      rintro e w1 ⟨rfl, hb⟩
      have A1 := Lib.hid (HA.out.below (Nat.le_refl _) hb)
      have HB1 := Lib.hid hb
      have c4 := A1.out.c4
      clear hb
      rw [show toI none = -1 from rfl]
      go_wp2
      go_ret2
      rw [HB.out.1, HB.out.2, HP.out]
      exact ⟨rfl, p, rfl, A1.out, fun j hj => .inl hj, Kept.of HB1.out (Nat.le_refl _)⟩
    · have hn' : m.n < 2000 := by omega
      obtain ⟨r1, r2, r3, r4, r5, _⟩ := room_inv HI.out hn'
      have HP : Hid (put (hashN k0 k1) m key u = lay (hashN k0 k1) (room (hashN k0 k1) m) (key, u)) := (put_none HI.out hf hn').2.2.2.2.2
      have HB : Hid (putB (hashN k0 k1) m key = false ∧ putE (hashN k0 k1) m key = 0) := by constructor <;> simp [putB, putE, hf, hn]
      have hd : decide ((2000 : Int) ≤ (m.n : Int)) = false := decide_eq_false (by omega)
      have R1 := Lib.hid r1
      have hld := HI.out.ld
      rw [hf] at HFi
      clear hf r1 r2 r3 r4 r5 hn
      go_enter Tryd.func54, Tryd.ntmps54
      go_wp2_with fail
      refine HM.out.mono ?_
      rintro e w' ⟨rfl, rfl⟩
      go_wp2_with fail
      refine HFi.out.mono ?_
      rintro e w1 ⟨rfl, hb⟩
      have A1 := Lib.hid (HA.out.below (Nat.le_refl _) hb)
      have HB1 := Lib.hid hb
      have S1 : Hid (Sh w1) := HSh.out.below hb
      have c2 := A1.out.c2
      have c4 := A1.out.c4
      have c5 := A1.out.c5
      clear hb
      rw [show toI none = -1 from rfl]
      have hw1 : IntKind.i64.wrap ((m.n : Int) + (m.tb : Int)) = (m.n : Int) + (m.tb : Int) := IntWalk.i64_in _ (by omega)
      have hw2 : IntKind.i64.wrap (7 * (m.ws.length : Int)) = 7 * (m.ws.length : Int) := IntWalk.i64_in _ (by omega)
      by_cases hfull : 7 * m.ws.length ≤ m.n + m.tb
      · have hd2 : decide (7 * (m.ws.length : Int) ≤ (m.n : Int) + (m.tb : Int)) = true := decide_eq_true (by omega)
        have HRH := Lib.hid (fun W (hA : At W p k0 k1 m) (hS : Sh W) => rehash_any p k0 k1 m W hA HI.out HKS.out hfull hn' hS HS0.out)
        have HRM : Hid (room (hashN k0 k1) m = rehash (hashN k0 k1) m) := by show _ = _; unfold room; rw [if_pos hfull]
        have HFull := Lib.hid hfull
        clear hfull
        go_upto_region 9 with fail
        go_quiet (fail)
        have A2 : Hid (At (w1.drewN nq) p k0 k1 m) := A1.out.blocks (fun j hj => rfl)
        have S2 : Hid (Sh (w1.drewN nq)) := S1.out
        have B2 : Hid (Below w1.heap.size w1 (w1.drewN nq)) := ⟨rfl, rfl, rfl, Nat.le_refl _, fun _ _ => rfl⟩
        generalize w1.drewN nq = w2 at *
        clear hw1 hw2 c2 c4 c5
        go_wp2_with fail
        refine (HRH.out w2 A2.out S2.out).mono ?_
        rintro e w3 ⟨rfl, ⟨q, hqb, hq, hqo⟩, hk3⟩
        have HQ := Lib.hid hq
        have HQO := Lib.hid hqo
        have HK3 := Lib.hid hk3
        have hp0 : p.b ≠ 0 := fun e => HS0.out (.inl e.symm)
        have S3 : Hid (Sh w3) := fun j hj => kept_cell hk3 (S2.out j hj) (fun e => hp0 e.symm)
        have hq0 : ¬ q.own 0 := fun e => by
          rcases hqo 0 e with h | h
          · exact hp0 h.symm
          · have := sh_pos S2.out; omega
        have HL := Lib.hid (lay_any q k0 k1 (room (hashN k0 k1) m) key u HKey.out w3 (by rw [HRM.out]; exact hq) R1.out S3.out hq0)
        rw [hqb] at HL
        have HQB := Lib.hid hqb
        clear hq hqo hk3 hq0 hp0 hqb
        go_wp2_with fail
        refine HL.out.mono ?_
        rintro e w4 ⟨rfl, hA4, hK4⟩
        have HA4 := Lib.hid hA4
        have HK4 := Lib.hid hK4
        clear hA4 hK4
        go_wp2
        go_ret2
        rw [HB.out.1, HB.out.2, HP.out]
        refine ⟨rfl, q, HQB.out, HA4.out, fun j hj => ?_, ?_⟩
        · rcases HQO.out j hj with h | h
          · exact .inl (.inl h)
          · exact .inr (Nat.le_trans (Nat.le_trans HB1.out.size B2.out.size) h)
        · have h12 : Kept p.own w w2 := Kept.of (HB1.out.trans (B2.out.mono HB1.out.size)) (Nat.le_refl _)
          have h13 : Kept p.own w w3 := h12.join HK3.out (fun _ h => h) (fun i _ h => .inl h)
          exact h13.join HK4.out (fun _ h => h) (fun i hi h => by
            rcases HQO.out i h with h | h
            · exact .inl h
            · have := Nat.le_trans HB1.out.size B2.out.size; omega)
      · have hd2 : decide (7 * (m.ws.length : Int) ≤ (m.n : Int) + (m.tb : Int)) = false := decide_eq_false (by omega)
        have HRM : Hid (room (hashN k0 k1) m = m) := by show _ = _; unfold room; rw [if_neg hfull]
        clear hfull
        go_upto_region 9 with fail
        go_quiet (fail)
        have A2 : Hid (At (w1.drewN nq) p k0 k1 m) := A1.out.blocks (fun j hj => rfl)
        have S2 : Hid (Sh (w1.drewN nq)) := S1.out
        have B2 : Hid (Below w1.heap.size w1 (w1.drewN nq)) := ⟨rfl, rfl, rfl, Nat.le_refl _, fun _ _ => rfl⟩
        generalize w1.drewN nq = w2 at *
        clear hw1 hw2 c2 c4 c5
        have HL := Lib.hid (lay_any p k0 k1 m key u HKey.out w2 A2.out HI.out S2.out HS0.out)
        go_wp2_with fail
        refine HL.out.mono ?_
        rintro e w4 ⟨rfl, hA4, hK4⟩
        have HA4 := Lib.hid hA4
        have HK4 := Lib.hid hK4
        clear hA4 hK4
        go_wp2
        go_ret2
        rw [HB.out.1, HB.out.2, HP.out, HRM.out]
        exact ⟨rfl, p, rfl, HA4.out, fun j hj => .inl hj, (Kept.of (HB1.out.trans (B2.out.mono HB1.out.size)) (Nat.le_refl _)).trans HK4.out⟩
end Go.Proofs.YtcooapflofiolaaDoor.MI
