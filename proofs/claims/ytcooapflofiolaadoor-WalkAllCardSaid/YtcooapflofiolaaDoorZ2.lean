/- Texts of this seat, set one behind the other. -/
import Derived.Test.YtcooapflofiolaaDoorZ1
import Derived.Sort.CutIn
import Derived.Maps.AppendAt
import Derived.Deep.RegionLaw
import Derived.Laws.CopyOwn
import Derived.Laws.MakeOwn
import Derived.Laws.OwnMore
/- find, over maps of texts. -/
namespace Go.Proofs.YtcooapflofiolaaDoor.MS
open Go Go.RowKit Go.Shelf
attribute [local go_sem] Oper.semAt_some
set_option linter.unusedVariables false
set_option linter.unusedSimpArgs false
set_option maxRecDepth 100000
set_option maxHeartbeats 4000000
abbrev VT := ByteArray
@[reducible] def val (v : VT) : Value := .string v
abbrev At (w : World) (p : Pl) (k0 k1 : BitVec 64) (m : Mp VT) : Prop := MA val 106 109 w p k0 k1 m
theorem find_any (p : Pl) (k0 k1 : BitVec 64) (m : Mp VT) (key : ByteArray) (hks : key.size ≤ maxLen) (w : World) (h : At w p k0 k1 m) (I : MInv (hashN k0 k1) m) :
    Calls Tryd.prog 66 #[.pointer (some ⟨p.b, 0, none⟩), .string key] w fun e w' => e = .returned (.int .i64 (toI (find (hashN k0 k1) m key))) ∧ Below w.heap.size w w' := by
  obtain ⟨w2, hw2⟩ : ∃ w2, w2 = (w.alloc (.cells #[.pointer (some ⟨p.b, 0, none⟩)] 26)).alloc (.cells #[.string key] 9) := ⟨_, rfl⟩
  have L0 : Hid (Below w.heap.size w w2) := by rw [hw2]; exact ((Below.refl _ w).alloc (Nat.le_refl _) _).alloc (by simp) _
  have A0 := Lib.hid (h.below (Nat.le_refl _) L0.out)
  have hlt := h.lt (.inl rfl)
  have Z2 : Hid (w2.heap.size = w.heap.size + 2) := by show _ = _; rw [hw2]; simp
  have SK : Hid (∀ W, Below w2.heap.size w2 W → W.cell? ⟨w.heap.size, 0, none⟩ = some (.pointer (some ⟨p.b, 0, none⟩)) ∧ W.cell? ⟨w.heap.size + 1, 0, none⟩ = some (.string key) ∧ W.cell? ⟨p.b, 0, none⟩ = some (.int .u64 (Sip.U k0)) ∧ W.cell? ⟨p.b, 1, none⟩ = some (.int .u64 (Sip.U k1))) := by
    show ∀ W, _
    intro W hW
    exact ⟨low_cell hW (Nat.le_refl _) (by rw [hw2]; simp), low_cell hW (Nat.le_refl _) (by rw [hw2]; simp), low_cell hW (Nat.le_refl _) A0.out.c0, low_cell hW (Nat.le_refl _) A0.out.c1⟩
  have HI := Lib.hid I
  obtain ⟨c, a, b, hc, ha, hb, he, hb1, hc1⟩ := hash_parts k0 k1 key
  have HS : Hid (∀ W, Calls Tryd.prog 99 #[.agg #[.int .u64 (Sip.U k0), .int .u64 (Sip.U k1)], .string key] W fun e w' => e = .returned (.int .u64 (c : Int)) ∧ Below W.heap.size W w') := fun W => sum_n k0 k1 key hks hc W
  have HP : Hid (∀ W, Calls Tryd.prog 98 #[.int .u64 (c : Int)] W fun e w' => e = .returned (.tuple #[.int .u64 (a : Int), .int .u8 (b : Int)]) ∧ W = w') := fun W => split_any c a b he hb1 hc1 W
  have HF : Hid (find (hashN k0 k1) m key = findL m b key (grps a m.ws.length)) := by show _ = _; unfold find; rw [ha, hb]
  have HA : Hid (a < 18446744073709551616 ∧ b < 128) := ⟨by omega, hb1⟩
  have HW2 := Lib.hid hw2
  clear h I hks hc ha hb he hb1 hc1 hw2
  refine (callsIn_wide (n := 4)).1 ?_
  refine callsIn_of_wp_marks Tryd.func66 rfl trivial ?_ rfl
  simp only [Tryd.ntmps66, List.size_toArray, List.length_cons, List.length_nil, Nat.reduceAdd, Nat.reduceSub, Array.replicate_succ, Array.replicate_zero, List.push_toArray, List.append_toArray, List.nil_append, List.cons_append]
  refine wpIn_wide.2 ?_
  go_wp2_with fail
  go_step3
  go_upto_region 1 with fail
  rw [← HW2.out]
  go_cut [5, 6] from 11 to 20 (fun hv bp wx => hv = .int .u64 (a : Int) ∧ ∃ B, bp = .pointer (some ⟨B, 0, none⟩) ∧ w2.heap.size ≤ B ∧ wx.heap[B]? = some (.cells #[.int .u8 (b : Int)] 5 (0, 0)) ∧ Below w2.heap.size w2 wx)
  case first =>
    have Lx : Hid (Below w2.heap.size w2 w2.drew) := (Below.refl _ _).drew
    have Ly : Hid (Below w2.heap.size w2 (w2.alloc (.cells #[.int .u8 0] 5)).drew) := ((Below.refl _ _).alloc (Nat.le_refl _) _).drew
    go_region_held3 (fun W => W.cell? ⟨w.heap.size, 0, none⟩ = some (.pointer (some ⟨p.b, 0, none⟩)) ∧ W.cell? ⟨w.heap.size + 1, 0, none⟩ = some (.string key) ∧ W.cell? ⟨p.b, 0, none⟩ = some (.int .u64 (Sip.U k0)) ∧ W.cell? ⟨p.b, 1, none⟩ = some (.int .u64 (Sip.U k1)))
      (first | exact SK.out _ HB3.out | exact SK.out _ (HB3.out.alloc HB3.out.size _) | exact SK.out _ Lx.out | exact SK.out _ Ly.out | exact SK.out _ (HB3.out.setCell (p := ⟨w2.heap.size, 0, none⟩) (Nat.le_refl _) _))
      (first
        | (go_at_call 99; refine (HS.out _).mono ?_; rintro e w3 ⟨rfl, hb3⟩; have HB3 : Hid (Below w2.heap.size w2 w3) := (by first | exact Lx.out.trans hb3 | exact Ly.out.trans (hb3.mono Ly.out.size)); first | (have x1 : w3.cell? ⟨w2.heap.size, 0, none⟩ = some (.int .u8 0) := low_cell hb3 (Nat.le_refl _) (by simp); have f1 : w3.frozen? ⟨w2.heap.size, 0, none⟩ = false := (hb3.frozen (p := ⟨w2.heap.size, 0, none⟩) (by simp)).trans (by simp); have X1 : Hid (w3.heap[w2.heap.size]? = some (.cells #[.int .u8 0] 5 (0, 0))) := (hb3.block w2.heap.size (by simp)).trans (heap_alloc_new w2 _)) | have X0 := trivial; clear hb3)
        | (go_at_call 98; refine (HP.out _).mono ?_; rintro e w' ⟨rfl, rfl⟩))
    all_goals (go_wp2_with fail; go_meet; first | exact ⟨rfl, w3.heap.size, rfl, HB3.out.size, heap_alloc_new _ _, HB3.out.alloc HB3.out.size _⟩ | exact ⟨rfl, w2.heap.size, rfl, Nat.le_refl _, (heap_setCell_same _ _ _ _ _ _ X1.out).trans rfl, HB3.out.setCell (p := ⟨w2.heap.size, 0, none⟩) (Nat.le_refl _) _⟩)
  case rest =>
    obtain ⟨rfl, B, rfl, hBB, hBx, hb⟩ := hcut
    have z0 := (SK.out _ hb).1
    have A1 := Lib.hid (A0.out.below (Nat.le_refl _) hb)
    have c2 := A1.out.c2
    have HBX := Lib.hid hBx
    have L1 := Lib.hid hb
    have hBl : B < wc.heap.size := (Array.getElem?_eq_some_iff.1 hBx).1
    have hpb := A1.out.lt (.inl rfl)
    clear hBx hb
    go_wp2_with fail
    go_step3
    have hsw : w.heap.size < wc.heap.size := cell_lt z0
    go_wp2_with (go_at_call 100; refine (seq_any _ _ _).mono ?_; rintro e w' ⟨rfl, rfl⟩)
    refine (wpIn_wide (n := 4)).1 ?_
    have hgl := HI.out.len
    have HGD := Lib.hid HI.out.gd
    have HAL := HA.out.1
    obtain ⟨g, hg⟩ : ∃ g, g = m.ws.length := ⟨_, rfl⟩
    rw [← hg] at hgl HGD c2 ⊢
    obtain ⟨s, hs⟩ : ∃ s, s = wc.heap.size := ⟨_, rfl⟩
    rw [← hs]
    obtain ⟨W0, hW0⟩ : ∃ W0, ((wc.alloc (Obj.cells #[Value.int IntKind.i64 (-1)] 3)).alloc (Obj.cells #[Value.int IntKind.u64 a] 22)).alloc (Obj.cells #[Value.int IntKind.i64 g] 3) = W0 := ⟨_, rfl⟩
    have hz : W0.heap.size = s + 3 := by rw [← hW0]; simp [hs]
    have bA : Boxed W0 s 3 (.int .i64 (-1)) := by rw [← hW0, hs]; exact ((Boxed.new wc 3 _).alloc _).alloc _
    have bH : W0.heap[s + 1]? = some (.cells #[.int .u64 a] 22 (0, 0)) := by
      rw [← hW0]; have := (Boxed.new (wc.alloc (Obj.cells #[Value.int IntKind.i64 (-1)] 3)) 22 (.int .u64 a)).alloc (Obj.cells #[Value.int IntKind.i64 g] 3); simpa [hs, Boxed] using this
    have bG : W0.heap[s + 1 + 1]? = some (.cells #[.int .i64 g] 3 (0, 0)) := by
      rw [← hW0]; have := Boxed.new ((wc.alloc (Obj.cells #[Value.int IntKind.i64 (-1)] 3)).alloc (Obj.cells #[Value.int IntKind.u64 a] 22)) 3 (.int .i64 g); simpa [hs, Boxed] using this
    have hB0 : Below s wc W0 := by
      rw [← hW0, hs]; exact (((Below.refl _ wc).alloc (Nat.le_refl _) _).alloc (by simp) _).alloc (by simp; omega) _
    rw [hW0]
    have HSs := Lib.hid hs
    have HG := Lib.hid hg
    have HB0 := Lib.hid hB0
    clear hs hW0 hg hB0
    refine wpIn_rangeFunc_ownG (n := 4) rfl (by omega) (gf := 115) (lb := #[.pointer (some ⟨s + 1 + 1, 0, none⟩), .pointer (some ⟨s + 1, 0, none⟩)]) rfl trivial (enters_of Tryd.func115 (by kernel_rfl) rfl)
      (seqk_stops 3 (by omega) (s + 1 + 1) (s + 1) a g HAL HGD.out W0 bG bH) Kp.t (Kp.b (by omega) (by omega)) (Below.refl _ _) (fun _ => rfl)
      (fun pre W => (∀ rest, findL m b key (pre.map (el a g) ++ rest) = findL m b key rest) ∧ Below W0.heap.size W0 W)
      (fun c pre W => Boxed W s 3 (.int .i64 (toI (findL m b key (pre.map (el a g))))) ∧ (c = .exit 0 ∧ ∀ rest, findL m b key (pre.map (el a g) ++ rest) = findL m b key (pre.map (el a g))) ∧ Below s wc W)
      (OwnFrom.and (ownFrom_pure _ (fun pre : List Nat => ∀ rest, findL m b key (pre.map (el a g) ++ rest) = findL m b key rest)) (ownFrom_below (Nat.le_refl _) (Nat.le_refl _)))
      (fun c => OwnFrom.and (Own.from (boxed_own s 3 (fun pre : List Nat => .int .i64 (toI (findL m b key (pre.map (el a g)))))) _)
        (OwnFrom.and (ownFrom_pure _ (fun pre : List Nat => c = .exit 0 ∧ ∀ rest, findL m b key (pre.map (el a g) ++ rest) = findL m b key (pre.map (el a g)))) (ownFrom_below (by rw [HSs.out]; exact Nat.le_refl _) (by omega))))
      ⟨fun rest => rfl, Below.refl _ _⟩
      (fun x => { tmps := List.toArray (Value.pointer (some ⟨p.b, 0, none⟩) :: Value.string key :: Value.pointer (some ⟨w.heap.size, 0, none⟩) :: Value.pointer (some ⟨w.heap.size + 1, 0, none⟩) :: Value.int .i64 0 :: Value.int .u64 a :: Value.pointer (some ⟨B, 0, none⟩) :: Value.pointer (some ⟨s, 0, none⟩) :: .int .i64 (el a g x : Nat) :: undef :: undef :: u11 :: u12 :: u13 :: u14 :: u15 :: u16 :: u17 :: u18 :: u19 :: u20 :: Value.int .u64 a :: Value.pointer (some ⟨p.b, 0, none⟩) :: Value.pointer (some ⟨p.b, 0, none⟩) :: Value.pointer (some ⟨p.b, 2, none⟩) :: Value.slice (some ⟨p.bw, 0, none⟩) g p.cw :: Value.int .i64 g :: Value.func (Fn.func 115) #[] #[Value.pointer (some ⟨s + 1 + 1, 0, none⟩), Value.pointer (some ⟨s + 1, 0, none⟩)] :: .int .i64 (el a g x : Nat) :: undef :: undef :: undef :: undef :: undef :: undef :: undef :: undef :: undef :: undef :: undef :: undef :: undef :: undef :: undef :: undef :: undef :: undef :: undef :: undef :: undef :: undef :: undef :: undef :: undef :: undef :: undef :: undef :: undef :: undef :: undef :: undef :: undef :: undef :: undef :: undef :: undef :: undef :: undef :: []), defers := [] }) ?assign ?body ?done ?stop
    case assign =>
      intro l x W K hK
      gi_wp2
      exact hK
    case body =>
      rintro l pre x W ⟨hne, hB⟩ hlt
      have HNE := Lib.hid hne
      have HB := Lib.hid hB
      have y0 := low_cell hB (Nat.le_refl _) (low_cell HB0.out (by rw [HSs.out]; exact Nat.le_refl _) z0)
      have y6 := low_cell hB (Nat.le_refl _) (low_cell HB0.out (by rw [HSs.out]; exact Nat.le_refl _) (show wc.cell? ⟨B, 0, none⟩ = some (.int .u8 (b : Int)) by simp [World.cell?, HBX.out]))
      have AW : Hid (At W p k0 k1 m) := A1.out.below (k := s) (Nat.le_of_eq HSs.out.symm) (HB0.out.trans (hB.mono (by omega)))
      have y2 := AW.out.c2
      rw [← HG.out] at y2
      obtain ⟨e, he⟩ : ∃ e, e = el a g x := ⟨_, rfl⟩
      rw [← he]
      have heg : e < g := by rw [he]; exact el_lt _ _ _ (by omega)
      have yw := AW.out.wc (j := e) (by rw [← HG.out]; exact heg)
      have hv := HI.out.wl e
      obtain ⟨v, hvv⟩ : ∃ v, v = m.w e := ⟨_, rfl⟩
      rw [← hvv] at yw hv
      have HV := Lib.hid hv
      have HVV := Lib.hid hvv
      have HE := Lib.hid he
      have hbl : b < 256 := by have := HA.out.2; omega
      have HBl := Lib.hid hbl
      have heg' : (e : Int) < (g : Int) := by omega
      have hfn1 : Fence.wide.fn 101 := trivial
      have hfn2 : Fence.wide.fn 103 := trivial
      have hfn3 : Fence.wide.fn 102 := trivial
      have hfn4 : Fence.wide.fn 67 := trivial
      have hn2 : 1 ≤ 4 - 1 - 1 := by omega
      have mx : Tryd.prog.follows .mixedOrders = true := by kernel_rfl
      have HBA := Lib.hid bA
      have HST : Hid (∀ rest, findL m b key ((pre ++ [x]).map (el a g) ++ rest) = findL m b key (e :: rest)) := by
        show ∀ rest, _
        intro rest
        rw [List.map_append, List.append_assoc, HNE.out, he]; rfl
      clear hne hB bA bH bG hv hvv he hbl z0 c2
      have HM : Hid (∀ W, CallsIn (Fence.wide.inRound l) 1 Tryd.prog 101 #[.int .u64 (v : Int), .int .u8 (b : Int)] W (fun e w' => e = .returned (.int .u8 (mch v b : Nat)) ∧ w' = W)) := fun W => CallsIn.inRound l ((callsIn_wide (n := 1)).2 ((match_any v b HV.out HBl.out W).mono fun _ _ ⟨h1, h2⟩ => ⟨h1, h2.symm⟩))
      gi_wp2
      refine region_quiet_r (by kernel_rfl) (by kernel_rfl) (by kernel_rfl) ?_
      repeat (gi_big_quiet_step ((gi_at_call 101; exact CallsIn.quiet_of_same (HM.out _))))
      refine wpQuietIn_nil ?_
      intro _ hw'
      obtain ⟨nq, rfl⟩ := hw'
      obtain ⟨W1, hW1⟩ : ∃ W1, W1 = W.drewN nq := ⟨_, rfl⟩
      rw [← hW1]
      have HB1 : Hid (Below W.heap.size W W1) := by rw [hW1]; exact ⟨rfl, rfl, rfl, Nat.le_refl _, fun _ _ => rfl⟩
      have hsW : s + 3 ≤ W.heap.size := by have := HB.out.size; omega
      have HBW : Hid (Below W0.heap.size W0 W) := HB.out
      have A2 : Hid (∀ wr, Below W.heap.size W wr → At wr p k0 k1 m ∧ wr.cell? ⟨w.heap.size, 0, none⟩ = some (.pointer (some ⟨p.b, 0, none⟩)) ∧ wr.cell? ⟨w.heap.size + 1, 0, none⟩ = some (.string key) ∧ Boxed wr s 3 (.int .i64 (-1)) ∧ Below s wc wr) := by
        show ∀ wr, _
        intro wr hwr
        have hl := HB0.out.trans (HB.out.mono (by omega))
        have hl2 := hl.trans (hwr.mono (by omega))
        have hs2 := SK.out _ (L1.out.trans (hl2.mono (by have := L1.out.size; have := HSs.out; omega)))
        exact ⟨AW.out.below (Nat.le_refl _) hwr, hs2.1, hs2.2.1, (hwr.block s (by omega)).trans ((HB.out.block s (by omega)).trans HBA.out), hl2⟩
      clear hW1 HB y0 y6 AW y2 yw HM
      gi_wp2
      gi_loopw [9, 10] (fun st _ wr => ∃ n : Nat, n < 256 ∧ st = .int .u8 n ∧ (∀ i, i < 8 → n.testBit i = true → gt v i = b) ∧ (∀ i, i < 8 → gt v i = b → n.testBit i = false → (m.s (8 * e + i)).1 ≠ key) ∧ Below W.heap.size W wr) (fun st _ _ => (intOf st).toNat)
      case atStart =>
        refine ⟨mch v b, mch_lt v b, rfl, fun i hi h => ?_, fun i hi h h2 => ?_, HB1.out⟩
        · rw [bit_mch v b i hi] at h; simpa using h
        · rw [bit_mch v b i hi, h] at h2; simp at h2
      case round =>
        obtain ⟨n, hn, rfl, hin, hout, hB⟩ := hrel
        have HIN := Lib.hid hin
        have HOUT := Lib.hid hout
        have HB2 := Lib.hid hB
        obtain ⟨a2, z0, z1, zb, hl⟩ := A2.out wr hB
        have zs := zb.cell
        have zf := zb.frozen
        have ZB := Lib.hid zb
        have HL := Lib.hid hl
        clear zb hl
        have y2 := a2.c2
        rw [← HG.out] at y2
        have yw := a2.wc (j := e) (by rw [← HG.out]; exact heg)
        rw [← HVV.out] at yw
        have y3 := a2.c3
        rw [← HG.out] at y3
        have AA := Lib.hid a2
        clear hin hout hB a2
        by_cases h0 : n = 0
        · subst h0
          have HM : Hid (∀ W, CallsIn (Fence.wide.inRound l) 1 Tryd.prog 67 #[.int .u64 (v : Int)] W (fun e w' => e = .returned (.int .u8 (mch v 128 : Nat)) ∧ w' = W)) := fun W => CallsIn.inRound l ((callsIn_wide (n := 1)).2 ((empties_any v HV.out W).mono fun _ _ ⟨h1, h2⟩ => ⟨h1, h2.symm⟩))
          by_cases hm0 : mch v 128 = 0
          · have hd0 : (((mch v 128 : Nat) : Int) == 0) = true := by simpa using hm0
            have hd1 : (((mch v 128 : Nat) : Int) != 0) = false := by simpa using hm0
            have HM0 := Lib.hid hm0
            clear hm0
            gi_wp2_with (gi_at_call 67; (with_reducible refine (HM.out _).mono ?_); rintro e w' ⟨rfl, rfl⟩)
            have hms := inG_missed HVV.out HOUT.out
            have hem : empB m e = false := by rw [emp_mch HVV.out]; exact decide_eq_false (fun h => h HM0.out)
            refine ⟨keeps_below HB2.out, Kp.below HB2.out (by omega) (by omega), fun rest => ?_, HBW.out.trans (HB2.out.mono HBW.out.size)⟩
            rw [HST.out, findL_on hms hem]
          · have hd0 : (((mch v 128 : Nat) : Int) == 0) = false := by simpa using hm0
            have hd1 : (((mch v 128 : Nat) : Int) != 0) = true := by simpa using hm0
            have HM0 := Lib.hid hm0
            clear hm0
            gi_wp2_with (gi_at_call 67; (with_reducible refine (HM.out _).mono ?_); rintro e w' ⟨rfl, rfl⟩)
            have hms := inG_missed HVV.out HOUT.out
            have hem : empB m e = true := by rw [emp_mch HVV.out]; exact decide_eq_true HM0.out
            have hr : ∀ rest, findL m b key ((pre ++ [x]).map (el a g) ++ rest) = none := fun rest => by rw [HST.out, findL_stop hms hem]
            have hr0 := hr []
            rw [List.append_nil] at hr0
            refine ⟨keeps_below HB2.out, ?_, ⟨rfl, fun rest => by rw [hr, hr0]⟩, HL.out⟩
            rw [hr0]; exact ZB.out
        · have hd0 : ((n : Int) == 0) = false := by simpa using h0
          have hd1 : ((n : Int) != 0) = true := by simpa using h0
          have hf := first_lt hn h0
          have HF1 := Lib.hid (first_bit hn h0)
          have HLE : Hid (∀ i, i < 8 → n.testBit i = true → firstF n ≤ i) := fun i hi h => first_le hn hi h
          have HNB : Hid (∀ i, i < 8 → (nextF n).testBit i = (n.testBit i && i != firstF n)) := fun i hi => next_bit hn hi
          have hnl := next_lt hn h0
          have HC1 : Hid (∀ W, CallsIn (Fence.wide.inRound l) 1 Tryd.prog 103 #[.int .u8 (n : Int)] W (fun e w' => e = .returned (.int .i64 (firstF n : Nat)) ∧ w' = W)) := fun W => CallsIn.inRound l ((callsIn_wide (n := 1)).2 ((first_any n hn W).mono fun _ _ ⟨h1, h2⟩ => ⟨h1, h2.symm⟩))
          have HC2 : Hid (∀ W, CallsIn (Fence.wide.inRound l) 1 Tryd.prog 102 #[.int .u8 (n : Int)] W (fun e w' => e = .returned (.int .u8 (nextF n : Nat)) ∧ w' = W)) := fun W => CallsIn.inRound l ((callsIn_wide (n := 1)).2 ((next_any n hn W).mono fun _ _ ⟨h1, h2⟩ => ⟨h1, h2.symm⟩))
          clear h0
          obtain ⟨q, hq⟩ : ∃ q, q = firstF n := ⟨_, rfl⟩
          rw [← hq] at hf HF1 HLE HNB HC1
          have hiq : 8 * e + q < 8 * g := by omega
          have ys := AA.out.sk (i := 8 * e + q) (by rw [← HG.out]; exact hiq)
          obtain ⟨kk, hkk⟩ : ∃ kk, kk = (m.s (8 * e + q)).1 := ⟨_, rfl⟩
          rw [← hkk] at ys
          have HQ := Lib.hid hq
          have HKK := Lib.hid hkk
          have hiq' : 8 * (e : Int) + (q : Int) < 8 * (g : Int) := by omega
          clear hq hkk
          gi_wp2_with (gi_at_call 103; (with_reducible refine (HC1.out _).mono ?_); rintro e w' ⟨rfl, rfl⟩)
          obtain ⟨ii, hii⟩ : ∃ ii : Nat, ii = 8 * e + q := ⟨_, rfl⟩
          rw [show (8 * (e : Int) + (q : Int)) = (ii : Int) by omega]
          rw [← hii] at ys hiq HKK
          have hiq2 : (ii : Int) < 8 * (g : Int) := by omega
          have HII := Lib.hid hii
          clear hii hiq'
          refine region_quiet_r (by kernel_rfl) (by kernel_rfl) (by kernel_rfl) ?_
          repeat (gi_big_quiet_step (fail))
          refine wpQuietIn_nil ?_
          intro _ hw'
          obtain ⟨nq2, rfl⟩ := hw'
          by_cases hkey : kk = key
          · have hkb : (kk.toList == key.toList) = true := by rw [beq_toList]; exact decide_eq_true hkey
            have HKY := Lib.hid hkey
            clear hkey
            rw [hkb]
            gi_wp2
            have hfd := inG_found HVV.out hf HIN.out HOUT.out HLE.out HF1.out (by rw [← HII.out, ← HKK.out]; exact HKY.out)
            have hr : ∀ rest, findL m b key ((pre ++ [x]).map (el a g) ++ rest) = some ii := fun rest => by rw [HST.out, findL_found hfd, HII.out]
            have hr0 := hr []
            rw [List.append_nil] at hr0
            refine ⟨(keeps_below (W' := w'.drewN nq2) ⟨HB2.out.os, HB2.out.tape, HB2.out.output, HB2.out.size, HB2.out.block⟩).trans ((KeepsOthers.setCell _ _ _).from _), ?_, ⟨rfl, fun rest => by rw [hr, hr0]⟩, Below.setCell (w := w'.drewN nq2) (p := ⟨s, 0, none⟩) (show Below s wc (w'.drewN nq2) from ⟨HL.out.os, HL.out.tape, HL.out.output, HL.out.size, HL.out.block⟩) (Nat.le_refl _) _⟩
            rw [hr0]
            exact Boxed.set (W := w'.drewN nq2) _ ZB.out
          · have hkb : (kk.toList == key.toList) = false := by rw [beq_toList]; exact decide_eq_false hkey
            have HKY := Lib.hid hkey
            clear hkey
            rw [hkb]
            gi_wp2_with (gi_at_call 102; (with_reducible refine (HC2.out _).mono ?_); rintro e w' ⟨rfl, rfl⟩)
            go_roundw
            case rel =>
              refine ⟨nextF n, by omega, rfl, fun i hi h => ?_, fun i hi h h2 => ?_, ⟨HB2.out.os, HB2.out.tape, HB2.out.output, HB2.out.size, HB2.out.block⟩⟩
              · rw [HNB.out i hi] at h
                simp only [Bool.and_eq_true] at h
                exact HIN.out i hi h.1
              · rw [HNB.out i hi] at h2
                by_cases hiq3 : i = q
                · subst hiq3; rw [← HII.out, ← HKK.out]; exact HKY.out
                · cases hb : n.testBit i with
                  | false => exact HOUT.out i hi h hb
                  | true => rw [hb] at h2; simp [hiq3] at h2
            case measure => simp [intOf]; omega
    case done =>
      rintro D ys W hD rfl ⟨hne, hB⟩ hK
      have hr : findL m b key (grps a g) = none := by
        have := hne []
        rw [List.append_nil] at this
        exact this
      have hcA : W.cell? ⟨s, 0, none⟩ = some (.int .i64 (-1)) := (hB.cell (p := ⟨s, 0, none⟩) (by show s < _; omega)).trans bA.cell
      have HR := Lib.hid hr
      clear hne hr
      go_wp2
      rw [Exit.noGoto_ret]
      refine ⟨by simp, .inl ⟨_, _, rfl, run_takeDeferred hK, ?_⟩⟩
      refine ⟨_, results_tmp rfl _ _ _, ?_, ?_⟩
      · rw [HF.out, ← HG.out, HR.out]; rfl
      · have h7 := L0.out.trans (L1.out.mono (by have := Z2.out; omega))
        exact (h7.trans ((HB0.out.trans (hB.mono (by omega))).mono (by have := HSs.out; omega))).trans (belowK_b (w := W0) (by have := HSs.out; omega) W D _ _ hD hK rfl rfl)
    case stop =>
      rintro D c pre W hD hpre ⟨hA, ⟨rfl, hst⟩, hB⟩ hK
      have hcA := hA.cell
      have hr : findL m b key (grps a g) = findL m b key (pre.map (el a g)) := by
        obtain ⟨r, hr⟩ := hpre
        have := hst (r.map (el a g))
        rw [← List.map_append, hr] at this
        exact this
      have HR := Lib.hid hr
      clear hst hr hpre
      gi_wp2
      go_wp2
      rw [Exit.noGoto_ret]
      refine ⟨by simp, .inl ⟨_, _, rfl, run_takeDeferred hK, ?_⟩⟩
      refine ⟨_, results_tmp rfl _ _ _, ?_, ?_⟩
      · rw [HF.out, ← HG.out, HR.out]; rfl
      · have h7 := L0.out.trans (L1.out.mono (by have := Z2.out; omega))
        exact (h7.trans (hB.mono (by have := HSs.out; omega))).trans (belowK_b (w := W0) (by have := HSs.out; omega) W D _ _ hD hK rfl rfl)
end Go.Proofs.YtcooapflofiolaaDoor.MS

/- lay, over maps of texts. -/
namespace Go.Proofs.YtcooapflofiolaaDoor.MS
open Go Go.RowKit Go.Shelf
attribute [local go_sem] Oper.semAt_some
set_option linter.unusedVariables false
set_option linter.unusedSimpArgs false
set_option maxRecDepth 100000
set_option maxHeartbeats 4000000
theorem at_own (p : Pl) (k0 k1 : BitVec 64) (f : List Nat → Mp VT) : Own (fun pre W => At W p k0 k1 (f pre)) := by
  rintro pre W W' row h hg hr
  refine h.blocks fun j hj => hg.block j (h.lt hj) (fun e => ?_)
  obtain ⟨o, ho, hc⟩ := hr _ e.symm
  obtain ⟨C, h1, _⟩ := h.hw
  obtain ⟨D, h2, _⟩ := h.hs
  rcases hj with rfl | rfl | rfl
  · rw [h.hb] at ho; cases ho; cases hc
  · rw [h1] at ho; cases ho; cases hc
  · rw [h2] at ho; cases ho; cases hc
theorem kept_own {β : Type} {B : Nat} {S : Nat → Prop} {w0 : World} (hB : w0.heap.size ≤ B) : OwnFrom B (fun (_ : β) W => Kept S w0 W) := fun _ W W' row h hg hr =>
  ⟨hg.os.trans h.os, hg.tape.trans h.tape, hg.output.trans h.output, Nat.le_trans h.size hg.size, fun k hk hn => (hg.block k (Nat.lt_of_lt_of_le hk h.size) (fun e => by have := (hr k e.symm).1; omega)).trans (h.block k hk hn)⟩
theorem keeps_kept {B : Nat} {S : Nat → Prop} {W W' : World} (hS : ∀ k, S k → k < B) (h : Kept S W W') : KeepsFrom B W W' := ⟨h.size, fun k o hB hk _ => (h.block k (Array.getElem?_eq_some_iff.1 hk).1 (fun e => by have := hS k e; omega)).trans hk⟩
theorem lay_any (p : Pl) (k0 k1 : BitVec 64) (m : Mp VT) (key : ByteArray) (u : VT) (hks : key.size ≤ maxLen) (w : World) (h : At w p k0 k1 m) (I : MInv (hashN k0 k1) m) (hS : Sh w) (hS0 : ¬ p.own 0) :
    Calls Tryd.prog 70 #[.pointer (some ⟨p.b, 0, none⟩), .agg #[.string key, val u]] w fun e w' => e = .returned (.tuple #[]) ∧ At w' p k0 k1 (lay (hashN k0 k1) m (key, u)) ∧ Kept p.own w w' := by
  obtain ⟨w2, hw2⟩ : ∃ w2, w2 = (w.alloc (.cells #[.pointer (some ⟨p.b, 0, none⟩)] 26)).alloc (.cells #[.string key, val u] 109) := ⟨_, rfl⟩
  have L0 : Hid (Below w.heap.size w w2) := by rw [hw2]; exact ((Below.refl _ w).alloc (Nat.le_refl _) _).alloc (by simp) _
  have A0 := Lib.hid (h.below (Nat.le_refl _) L0.out)
  have hlt := h.lt (.inl rfl)
  have HLO : Hid (∀ j, p.own j → j < w.heap.size) := fun j hj => h.lt hj
  have Z2 : Hid (w2.heap.size = w.heap.size + 2) := by show _ = _; rw [hw2]; simp
  have SK : Hid (∀ W, Below w2.heap.size w2 W → W.cell? ⟨w.heap.size, 0, none⟩ = some (.pointer (some ⟨p.b, 0, none⟩)) ∧ W.cell? ⟨w.heap.size + 1, 0, none⟩ = some (.string key) ∧ W.cell? ⟨p.b, 0, none⟩ = some (.int .u64 (Sip.U k0)) ∧ W.cell? ⟨p.b, 1, none⟩ = some (.int .u64 (Sip.U k1)) ∧ W.cell? ⟨w.heap.size + 1, 1, none⟩ = some (val u)) := by
    show ∀ W, _
    intro W hW
    exact ⟨low_cell hW (Nat.le_refl _) (by rw [hw2]; simp), low_cell hW (Nat.le_refl _) (by rw [hw2]; simp), low_cell hW (Nat.le_refl _) A0.out.c0, low_cell hW (Nat.le_refl _) A0.out.c1, low_cell hW (Nat.le_refl _) (by rw [hw2]; simp)⟩
  have HI := Lib.hid I
  have HSH : Hid (Sh w2) := hS.below L0.out
  have HS0 := Lib.hid hS0
  obtain ⟨c, a, b, hc, ha, hb, he, hb1, hc1⟩ := hash_parts k0 k1 key
  have HS : Hid (∀ W, Calls Tryd.prog 99 #[.agg #[.int .u64 (Sip.U k0), .int .u64 (Sip.U k1)], .string key] W fun e w' => e = .returned (.int .u64 (c : Int)) ∧ Below W.heap.size W w') := fun W => sum_n k0 k1 key hks hc W
  have HP : Hid (∀ W, Calls Tryd.prog 98 #[.int .u64 (c : Int)] W fun e w' => e = .returned (.tuple #[.int .u64 (a : Int), .int .u8 (b : Int)]) ∧ W = w') := fun W => split_any c a b he hb1 hc1 W
  have HF : Hid (lay (hashN k0 k1) m (key, u) = layL m b (key, u) (grps a m.ws.length)) := by show _ = _; unfold lay; rw [ha, hb]
  have HA : Hid (a < 18446744073709551616 ∧ b < 128) := ⟨by omega, hb1⟩
  have HW2 := Lib.hid hw2
  clear h I hks hc ha hb he hb1 hc1 hw2 hS hS0
  refine (callsIn_wide (n := 4)).1 ?_
  refine callsIn_of_wp_marks Tryd.func70 rfl trivial ?_ rfl
  simp only [Tryd.ntmps70, List.size_toArray, List.length_cons, List.length_nil, Nat.reduceAdd, Nat.reduceSub, Array.replicate_succ, Array.replicate_zero, List.push_toArray, List.append_toArray, List.nil_append, List.cons_append]
  refine wpIn_wide.2 ?_
  go_upto_region 1 with fail
  rw [← HW2.out]
  go_cut [4, 5] from 9 to 19 (fun hv bp wx => hv = .int .u64 (a : Int) ∧ ∃ B, bp = .pointer (some ⟨B, 0, none⟩) ∧ w2.heap.size ≤ B ∧ wx.heap[B]? = some (.cells #[.int .u8 (b : Int)] 5 (0, 0)) ∧ Below w2.heap.size w2 wx)
  case first =>
    have Lx : Hid (Below w2.heap.size w2 w2.drew) := (Below.refl _ _).drew
    have Ly : Hid (Below w2.heap.size w2 (w2.alloc (.cells #[.int .u8 0] 5)).drew) := ((Below.refl _ _).alloc (Nat.le_refl _) _).drew
    go_region_held3 (fun W => W.cell? ⟨w.heap.size, 0, none⟩ = some (.pointer (some ⟨p.b, 0, none⟩)) ∧ W.cell? ⟨w.heap.size + 1, 0, none⟩ = some (.string key) ∧ W.cell? ⟨p.b, 0, none⟩ = some (.int .u64 (Sip.U k0)) ∧ W.cell? ⟨p.b, 1, none⟩ = some (.int .u64 (Sip.U k1)) ∧ W.cell? ⟨w.heap.size + 1, 1, none⟩ = some (val u))
      (first | exact SK.out _ HB3.out | exact SK.out _ (HB3.out.alloc HB3.out.size _) | exact SK.out _ Lx.out | exact SK.out _ Ly.out | exact SK.out _ (HB3.out.setCell (p := ⟨w2.heap.size, 0, none⟩) (Nat.le_refl _) _))
      (first
        | (go_at_call 99; refine (HS.out _).mono ?_; rintro e w3 ⟨rfl, hb3⟩; have HB3 : Hid (Below w2.heap.size w2 w3) := (by first | exact Lx.out.trans hb3 | exact Ly.out.trans (hb3.mono Ly.out.size)); first | (have x1 : w3.cell? ⟨w2.heap.size, 0, none⟩ = some (.int .u8 0) := low_cell hb3 (Nat.le_refl _) (by simp); have f1 : w3.frozen? ⟨w2.heap.size, 0, none⟩ = false := (hb3.frozen (p := ⟨w2.heap.size, 0, none⟩) (by simp)).trans (by simp); have X1 : Hid (w3.heap[w2.heap.size]? = some (.cells #[.int .u8 0] 5 (0, 0))) := (hb3.block w2.heap.size (by simp)).trans (heap_alloc_new w2 _)) | have X0 := trivial; clear hb3)
        | (go_at_call 98; refine (HP.out _).mono ?_; rintro e w' ⟨rfl, rfl⟩))
    all_goals (go_wp2_with fail; go_meet; first | exact ⟨rfl, w3.heap.size, rfl, HB3.out.size, heap_alloc_new _ _, HB3.out.alloc HB3.out.size _⟩ | exact ⟨rfl, w2.heap.size, rfl, Nat.le_refl _, (heap_setCell_same _ _ _ _ _ _ X1.out).trans rfl, HB3.out.setCell (p := ⟨w2.heap.size, 0, none⟩) (Nat.le_refl _) _⟩)
  case rest =>
    obtain ⟨rfl, B, rfl, hBB, hBx, hb⟩ := hcut
    have z0 := (SK.out _ hb).1
    have A1 := Lib.hid (A0.out.below (Nat.le_refl _) hb)
    have c2 := A1.out.c2
    have HBX := Lib.hid hBx
    have L1 := Lib.hid hb
    have hBl : B < wc.heap.size := (Array.getElem?_eq_some_iff.1 hBx).1
    have hpb := A1.out.lt (.inl rfl)
    clear hBx hb
    have hsw : w.heap.size < wc.heap.size := cell_lt z0
    go_wp2_with (go_at_call 100; refine (seq_any _ _ _).mono ?_; rintro e w' ⟨rfl, rfl⟩)
    refine (wpIn_wide (n := 4)).1 ?_
    have hgl := HI.out.len
    have HGD := Lib.hid HI.out.gd
    have HAL := HA.out.1
    obtain ⟨g, hg⟩ : ∃ g, g = m.ws.length := ⟨_, rfl⟩
    rw [← hg] at hgl HGD c2 ⊢
    obtain ⟨s, hs⟩ : ∃ s, s = wc.heap.size := ⟨_, rfl⟩
    rw [← hs]
    obtain ⟨W0, hW0⟩ : ∃ W0, (wc.alloc (Obj.cells #[Value.int IntKind.u64 a] 22)).alloc (Obj.cells #[Value.int IntKind.i64 g] 3) = W0 := ⟨_, rfl⟩
    have hz : W0.heap.size = s + 2 := by rw [← hW0]; simp [hs]
    have bH : W0.heap[s]? = some (.cells #[.int .u64 a] 22 (0, 0)) := by
      rw [← hW0, hs]; exact (Boxed.new wc 22 _).alloc _
    have bG : W0.heap[s + 1]? = some (.cells #[.int .i64 g] 3 (0, 0)) := by
      rw [← hW0]; have := Boxed.new (wc.alloc (Obj.cells #[Value.int IntKind.u64 a] 22)) 3 (.int .i64 g); simpa [hs, Boxed] using this
    have hB0 : Below s wc W0 := by
      rw [← hW0, hs]; exact ((Below.refl _ wc).alloc (Nat.le_refl _) _).alloc (by simp) _
    rw [hW0]
    have HSs := Lib.hid hs
    have HG := Lib.hid hg
    have HB0 := Lib.hid hB0
    clear hs hW0 hg hB0
    refine wpIn_rangeFunc_ownG (n := 4) rfl (by omega) (gf := 115) (lb := #[.pointer (some ⟨s + 1, 0, none⟩), .pointer (some ⟨s, 0, none⟩)]) rfl trivial (enters_of Tryd.func115 (by kernel_rfl) rfl)
      (seqk_stops 3 (by omega) (s + 1) s a g HAL HGD.out W0 bG bH) Kp.t (Kp.b (by omega) (by omega)) (Below.refl _ _) (fun _ => rfl)
      (fun pre W => (∀ rest, layL m b (key, u) (pre.map (el a g) ++ rest) = layL m b (key, u) rest) ∧ Below W0.heap.size W0 W)
      (fun c pre W => At W p k0 k1 (layL m b (key, u) (pre.map (el a g))) ∧ (c = .ret ∧ ∀ rest, layL m b (key, u) (pre.map (el a g) ++ rest) = layL m b (key, u) (pre.map (el a g))) ∧ Kept p.own wc W)
      (OwnFrom.and (ownFrom_pure _ (fun pre : List Nat => ∀ rest, layL m b (key, u) (pre.map (el a g) ++ rest) = layL m b (key, u) rest)) (ownFrom_below (Nat.le_refl _) (Nat.le_refl _)))
      (fun c => OwnFrom.and (Own.from (at_own p k0 k1 (fun pre : List Nat => layL m b (key, u) (pre.map (el a g)))) _)
        (OwnFrom.and (ownFrom_pure _ (fun pre : List Nat => c = .ret ∧ ∀ rest, layL m b (key, u) (pre.map (el a g) ++ rest) = layL m b (key, u) (pre.map (el a g)))) (kept_own (by have := HSs.out; omega))))
      ⟨fun rest => rfl, Below.refl _ _⟩
      (fun x => { tmps := List.toArray (Value.pointer (some ⟨p.b, 0, none⟩) :: Value.agg #[.string key, val u] :: Value.pointer (some ⟨w.heap.size, 0, none⟩) :: Value.pointer (some ⟨w.heap.size + 1, 0, none⟩) :: Value.int .u64 a :: Value.pointer (some ⟨B, 0, none⟩) :: .int .i64 (el a g x : Nat) :: undef :: undef :: u9 :: u10 :: u11 :: u12 :: u13 :: u14 :: u15 :: u16 :: u17 :: u18 :: u19 :: Value.int .u64 a :: Value.pointer (some ⟨p.b, 0, none⟩) :: Value.pointer (some ⟨p.b, 0, none⟩) :: Value.pointer (some ⟨p.b, 2, none⟩) :: Value.slice (some ⟨p.bw, 0, none⟩) g p.cw :: Value.int .i64 g :: Value.func (Fn.func 115) #[] #[Value.pointer (some ⟨s + 1, 0, none⟩), Value.pointer (some ⟨s, 0, none⟩)] :: .int .i64 (el a g x : Nat) :: undef :: undef :: undef :: undef :: undef :: undef :: undef :: undef :: undef :: undef :: undef :: undef :: undef :: undef :: undef :: undef :: undef :: undef :: undef :: undef :: undef :: undef :: undef :: undef :: undef :: undef :: undef :: undef :: undef :: undef :: undef :: undef :: undef :: undef :: undef :: undef :: undef :: undef :: undef :: undef :: undef :: undef :: undef :: undef :: undef :: undef :: undef :: undef :: undef :: undef :: undef :: undef :: undef :: undef :: undef :: undef :: undef :: undef :: undef :: undef :: undef :: undef :: []), defers := [] }) ?assign ?body ?done ?stop
    case assign =>
      intro l x W K hK
      gi_wp2
      exact hK
    case body =>
      rintro l pre x W ⟨hne, hB⟩ hlt
      have HNE := Lib.hid hne
      have HB := Lib.hid hB
      have hl := HB0.out.trans (hB.mono (by omega))
      have LW : Hid (Below w2.heap.size w2 W) := L1.out.trans (hl.mono (by have := L1.out.size; have := HSs.out; omega))
      obtain ⟨y0, y1, _, _, y1'⟩ := SK.out _ LW.out
      have y6 := low_cell hl (Nat.le_of_eq HSs.out.symm) (show wc.cell? ⟨B, 0, none⟩ = some (.int .u8 (b : Int)) by simp [World.cell?, HBX.out])
      have AW : Hid (At W p k0 k1 m) := A1.out.below (k := s) (Nat.le_of_eq HSs.out.symm) hl
      have SW : Hid (Sh W) := HSH.out.below LW.out
      have y2 := AW.out.c2
      rw [← HG.out] at y2
      obtain ⟨e, he⟩ : ∃ e, e = el a g x := ⟨_, rfl⟩
      rw [← he]
      have heg : e < g := by rw [he]; exact el_lt _ _ _ (by omega)
      have yw := AW.out.wc (j := e) (by rw [← HG.out]; exact heg)
      have hv := HI.out.wl e
      obtain ⟨v, hvv⟩ : ∃ v, v = m.w e := ⟨_, rfl⟩
      rw [← hvv] at yw hv
      have HV := Lib.hid hv
      have HVV := Lib.hid hvv
      have HE := Lib.hid he
      have hbl : b < 256 := by have := HA.out.2; omega
      have HBl := Lib.hid hbl
      have heg' : (e : Int) < (g : Int) := by omega
      have hfn1 : Fence.wide.fn 104 := trivial
      have hfn2 : Fence.wide.fn 103 := trivial
      have hfn3 : Fence.wide.fn 105 := trivial
      have hfn4 : Fence.wide.fn 68 := trivial
      have hn2 : 1 ≤ 4 - 1 - 1 := by omega
      have mx : Tryd.prog.follows .mixedOrders = true := by kernel_rfl
      have HBW : Hid (Below W0.heap.size W0 W) := hB
      have HL := Lib.hid hl
      have hsW : s + 2 ≤ W.heap.size := by have := hB.size; omega
      have HST : Hid (∀ rest, layL m b (key, u) ((pre ++ [x]).map (el a g) ++ rest) = layL m b (key, u) (e :: rest)) := by
        show ∀ rest, _
        intro rest
        rw [List.map_append, List.append_assoc, HNE.out, he]; rfl
      have HM : Hid (∀ W, CallsIn (Fence.wide.inRound l) 1 Tryd.prog 104 #[.int .u64 (v : Int)] W (fun e w' => e = .returned (.int .u8 (fre v : Nat)) ∧ W = w')) := fun W => CallsIn.inRound l ((callsIn_wide (n := 1)).2 ((free_any v HV.out W).mono fun _ _ ⟨h1, h2⟩ => ⟨h1, h2⟩))
      clear hne hB bH bG hv hvv he hbl z0 c2 hl HB
      obtain ⟨n, hn⟩ : ∃ n, n = fre v := ⟨_, rfl⟩
      have hn2' : n < 256 := by rw [hn]; exact fre_lt v
      rw [← hn] at HM
      have HN := Lib.hid hn
      clear hn
      by_cases h0 : n = 0
      · have hd0 : ((n : Int) == 0) = true := by simpa using h0
        have hd1 : ((n : Int) != 0) = false := by simpa using h0
        have H0 := Lib.hid h0
        clear h0
        gi_wp2_with (gi_at_call 104; (with_reducible refine (HM.out _).mono ?_); rintro e w' ⟨rfl, rfl⟩)
        have hq0 : freeAt m e = none := by
          unfold freeAt
          refine find8_none fun i hi => ?_
          have := bit_fre v i hi
          rw [← HN.out, H0.out] at this
          rw [← HVV.out, ← this]; simp
        refine ⟨KeepsFrom.refl _ _, Kp.refl _ _ _, fun rest => by rw [HST.out, layL, hq0], HBW.out⟩
      · have hd0 : ((n : Int) == 0) = false := by simpa using h0
        have hd1 : ((n : Int) != 0) = true := by simpa using h0
        have hf := first_lt hn2' h0
        have HF1 := Lib.hid (first_bit hn2' h0)
        have HLE : Hid (∀ i, i < 8 → n.testBit i = true → firstF n ≤ i) := fun i hi h => first_le hn2' hi h
        have HC1 : Hid (∀ W, CallsIn (Fence.wide.inRound l) 1 Tryd.prog 103 #[.int .u8 (n : Int)] W (fun e w' => e = .returned (.int .i64 (firstF n : Nat)) ∧ W = w')) := fun W => CallsIn.inRound l ((callsIn_wide (n := 1)).2 ((first_any n hn2' W).mono fun _ _ ⟨h1, h2⟩ => ⟨h1, h2⟩))
        clear h0
        obtain ⟨q, hq⟩ : ∃ q, q = firstF n := ⟨_, rfl⟩
        rw [← hq] at hf HF1 HLE HC1
        have HQ := Lib.hid hq
        clear hq
        have HC2 : Hid (∀ W, Sh W → CallsIn (Fence.wide.inRound l) 1 Tryd.prog 105 #[.int .u64 (v : Int), .int .i64 (q : Int)] W (fun e w' => e = .returned (.int .u8 (gt v q : Nat)) ∧ W = w')) := fun W hW => CallsIn.inRound l ((callsIn_wide (n := 1)).2 ((get_any v (q : Int) HV.out W hW).mono fun _ _ ⟨h1, h2⟩ => ⟨by rw [h1, ix_nat hf], h2⟩))
        have HC3 : Hid (∀ W, Sh W → CallsIn (Fence.wide.inRound l) 1 Tryd.prog 68 #[.int .u64 (v : Int), .int .i64 (q : Int), .int .u8 (b : Int)] W (fun e w' => e = .returned (.int .u64 (st v q b : Nat)) ∧ w' = W)) := fun W hW => CallsIn.inRound l ((callsIn_wide (n := 1)).2 ((set_any v b (q : Int) HV.out HBl.out W hW).mono fun _ _ ⟨h1, h2⟩ => ⟨by rw [h1, ix_nat hf], h2.symm⟩))
        gi_upto_if 49 with (first | (gi_at_call 104; (with_reducible refine (HM.out _).mono ?_); rintro e w' ⟨rfl, rfl⟩) | (gi_at_call 103; (with_reducible refine (HC1.out _).mono ?_); rintro e w' ⟨rfl, rfl⟩) | (gi_at_call 105; (with_reducible refine (HC2.out _ SW.out).mono ?_); rintro e w' ⟨rfl, rfl⟩))
        have hlo : ∀ j, p.own j → j < w.heap.size := fun j hj => HLO.out j hj
        have HT : Hid (∃ t : Nat, t = if m.c (8 * e + q) = 254 then m.tb - 1 else m.tb) := ⟨_, rfl⟩
        obtain ⟨t, ht⟩ := HT.out
        have hcq : m.c (8 * e + q) = gt v q := by rw [c_at m e hf, HVV.out]
        rw [hcq] at ht
        have hcz : gt v q = 254 → 0 < m.tb := fun h => by
          have h1 := HI.out.ctb
          have := cnt_set (p := fun i => m.c i == 254) (q := fun i => if i = 8 * e + q then false else m.c i == 254) (i := 8 * e + q) (n := 8 * m.ws.length) (by have := HG.out; omega) (fun j hj hne => by simp [hne])
          rw [h1]; simp [hcq, h] at this; omega
        have HT' := Lib.hid ht
        have HCZ := Lib.hid hcz
        have htb : m.tb ≤ 7168 := by have := HI.out.ld; have := HI.out.len; omega
        clear ht hcz hcq HT hlo
        gi_cut [] from 49 (fun wx => At wx p k0 k1 { m with tb := t } ∧ Kept p.own W wx)
        case first =>
          have c5 := AW.out.c5
          have f5 := AW.out.fz 5
          by_cases h254 : gt v q = 254
          · have hd2 : (((gt v q : Nat) : Int) == 254) = true := by rw [h254]; rfl
            have hp := HCZ.out h254
            have hw1 : (m.tb : Int) - 1 = ((m.tb - 1 : Nat) : Int) := by omega
            have ht : t = m.tb - 1 := by rw [HT'.out, if_pos h254]
            have HT2 := Lib.hid ht
            have HW1 := Lib.hid hw1
            clear h254 ht hw1
            rw [hd2]
            gi_wp2
            gi_meet
            rw [HW1.out]
            exact ⟨by rw [HT2.out]; exact AW.out.setT _, (Kept.refl _ _).setCell (p := ⟨p.b, 5, none⟩) (.inl (.inl rfl)) _⟩
          · have hd2 : (((gt v q : Nat) : Int) == 254) = false := by simp; omega
            have ht : t = m.tb := by rw [HT'.out, if_neg h254]
            have HT2 := Lib.hid ht
            clear h254 ht
            rw [hd2]
            gi_wp2
            gi_meet
            exact ⟨by rw [HT2.out]; exact AW.out, Kept.refl _ _⟩
        case rest =>
          obtain ⟨hA3, hK3⟩ := hcut
          have A3 := Lib.hid hA3
          have K3 := Lib.hid hK3
          have nb : ∀ j, w.heap.size ≤ j → ¬ p.own j := fun j hj e => by have := HLO.out j e; omega
          have z0 := kept_cell hK3 y0 (nb _ (Nat.le_refl _))
          have z1 := kept_cell hK3 y1 (nb _ (Nat.le_succ _))
          have z1' := kept_cell hK3 y1' (nb _ (Nat.le_succ _))
          have z6 := kept_cell hK3 y6 (nb B (by have := Z2.out; omega))
          have z2 := hA3.c2
          have z3 := hA3.c3
          have z4 := hA3.c4
          have zw := hA3.wc (j := e) (by rw [← HG.out]; exact heg)
          have fw := hA3.wf e
          have SX : Hid (Sh wc) := fun j hj => kept_cell hK3 (SW.out j hj) HS0.out
          dsimp only at z2 z3 z4 zw
          rw [← HG.out] at z2 z3
          rw [show Mp.w { m with tb := t } e = v from HVV.out.symm] at zw
          have HC4 : Hid (∀ k, CallsIn (Fence.wide.inRound l) 1 Tryd.prog 68 #[.int .u64 (v : Int), .int .i64 (q : Int), .int .u8 (b : Int)] (wc.drewN k) (fun e w' => e = .returned (.int .u64 (st v q b : Nat)) ∧ w' = wc.drewN k)) := fun k => HC3.out _ SX.out
          clear nb hA3 hK3 y6 y2 yw
          gi_wp2
          refine region_tail_r 16 (by kernel_rfl) (by kernel_rfl) (by kernel_rfl) ?_
          simp only [List.take_succ_cons, List.take_zero, List.drop_succ_cons, List.drop_zero]
          repeat (gi_big_quiet_step ((gi_at_call 68; exact CallsIn.quiet_of_same (HC4.out _))))
          refine wpQuietIn_nil ?_
          intro _ hw'
          obtain ⟨nq, rfl⟩ := hw'
          have K4 : Hid (Kept p.own W ((wc.drewN nq).setCell ⟨p.bw, e, none⟩ (.int .u64 (st v q b : Nat)))) := Kept.setCell (w := wc.drewN nq) ⟨K3.out.os, K3.out.tape, K3.out.output, K3.out.size, K3.out.block⟩ (p := ⟨p.bw, e, none⟩) (.inl (.inr (.inl rfl))) _
          have A4 : Hid (At ((wc.drewN nq).setCell ⟨p.bw, e, none⟩ (.int .u64 (st v q b : Nat))) p k0 k1 { m with tb := t, ws := m.ws.set e (st v q b) }) := MA.setW (w := wc.drewN nq) (A3.out.blocks (fun j hj => rfl)) (show e < m.ws.length by rw [← HG.out]; exact heg)
          gi_upto_region 10 with fail
          generalize (wc.drewN nq).setCell ⟨p.bw, e, none⟩ (.int .u64 (st v q b : Nat)) = X1 at *
          have nb : ∀ j, w.heap.size ≤ j → ¬ p.own j := fun j hj e => by have := HLO.out j e; omega
          have z0 := kept_cell K4.out y0 (nb _ (Nat.le_refl _))
          have z1 := kept_cell K4.out y1 (nb _ (Nat.le_succ _))
          have z1' := kept_cell K4.out y1' (nb _ (Nat.le_succ _))
          have z3 := A4.out.c3
          have f3 := A4.out.sf
          dsimp only at z3
          rw [List.length_set, ← HG.out] at z3
          obtain ⟨ii, hii⟩ : ∃ ii : Nat, ii = 8 * e + q := ⟨_, rfl⟩
          have hiq : ii < 8 * g := by omega
          have hiq2 : (ii : Int) < 8 * (g : Int) := by omega
          have hw1 : IntKind.i64.wrap (8 * (e : Int)) = 8 * (e : Int) := IntWalk.i64_in _ (by omega)
          have hw2 : IntKind.i64.wrap (8 * (e : Int) + (q : Int)) = (ii : Int) := by rw [IntWalk.i64_in _ (by omega)]; omega
          have f30 := f3 (ii * 2)
          have f31 := f3 (ii * 2 + 1)
          have HII := Lib.hid hii
          have sk := A4.out.sk (i := ii) (by show ii < 8 * (m.ws.set e (st v q b)).length; rw [List.length_set, ← HG.out]; exact hiq)
          have sv := A4.out.sv (i := ii) (by show ii < 8 * (m.ws.set e (st v q b)).length; rw [List.length_set, ← HG.out]; exact hiq)
          clear nb f3 hii
          refine region_tail_r 10 (by kernel_rfl) (by kernel_rfl) (by kernel_rfl) ?_
          simp only [List.take_succ_cons, List.take_zero, List.drop_succ_cons, List.drop_zero]
          repeat (gi_big_quiet_step (fail))
          refine wpQuietIn_nil ?_
          intro _ hw'
          obtain ⟨nq2, rfl⟩ := hw'
          have A5 : Hid (At (((X1.drewN nq2).setCell ⟨p.bs, ii * 2, none⟩ (.string key)).setCell ⟨p.bs, ii * 2 + 1, none⟩ (val u)) p k0 k1 { m with tb := t, ws := m.ws.set e (st v q b), ss := m.ss.set ii (key, u) }) :=
            MA.setS (w := X1.drewN nq2) (A4.out.blocks (fun j hj => rfl)) (by show ii < 8 * (m.ws.set e (st v q b)).length; rw [List.length_set, ← HG.out]; exact hiq) (by show m.ss.length = 8 * (m.ws.set e (st v q b)).length; rw [List.length_set]; exact HI.out.sl) (key, u)
          have K5 : Hid (Kept p.own W (((X1.drewN nq2).setCell ⟨p.bs, ii * 2, none⟩ (.string key)).setCell ⟨p.bs, ii * 2 + 1, none⟩ (val u))) :=
            Kept.setCell (Kept.setCell (w := X1.drewN nq2) ⟨K4.out.os, K4.out.tape, K4.out.output, K4.out.size, K4.out.block⟩ (p := ⟨p.bs, ii * 2, none⟩) (.inl (.inr (.inr rfl))) _) (p := ⟨p.bs, ii * 2 + 1, none⟩) (.inl (.inr (.inr rfl))) _
          gi_upto_region 11 with fail
          generalize ((X1.drewN nq2).setCell ⟨p.bs, ii * 2, none⟩ (.string key)).setCell ⟨p.bs, ii * 2 + 1, none⟩ (val u) = X2 at *
          have nb : ∀ j, w.heap.size ≤ j → ¬ p.own j := fun j hj e => by have := HLO.out j e; omega
          have z0 := kept_cell K5.out y0 (nb _ (Nat.le_refl _))
          have z4 := A5.out.c4
          have f4 := A5.out.fz 4
          dsimp only at z4
          have hnx : (m.n : Int) + 1 = ((m.n + 1 : Nat) : Int) := by omega
          have hmx := HI.out.mx
          have HNX := Lib.hid hnx
          clear nb hnx
          gi_wp2
          rw [HNX.out]
          have hq0 : freeAt m e = some q := by
            unfold freeAt
            refine find8_some hf ?_ fun i hi => ?_
            · have := bit_fre v q hf
              rw [← HN.out, HF1.out] at this
              rw [← HVV.out]; exact this.symm
            · have h1 : n.testBit i = false := by
                cases hb : n.testBit i with
                | false => rfl
                | true => have := HLE.out i (by omega) hb; omega
              have := bit_fre v i (by omega)
              rw [← HN.out, h1] at this
              rw [← HVV.out]; exact this.symm
          have hr : ∀ rest, layL m b (key, u) ((pre ++ [x]).map (el a g) ++ rest) = { m with tb := t, ws := m.ws.set e (st v q b), ss := m.ss.set ii (key, u), n := m.n + 1 } := fun rest => by
            rw [HST.out, layL, hq0]
            simp only [putAt]
            rw [← HVV.out, ← HT'.out, HII.out]
          have hr0 := hr []
          rw [List.append_nil] at hr0
          have K6 := K5.out.setCell (p := ⟨p.b, 4, none⟩) (.inl (.inl rfl)) (.int .i64 ((m.n + 1 : Nat) : Int))
          refine ⟨?_, by rw [hr0]; exact A5.out.setN _, ⟨rfl, fun rest => by rw [hr, hr0]⟩, ((Kept.of HL.out (Nat.le_of_eq HSs.out.symm)).join K6 (fun _ h => h) (fun _ _ h => h))⟩
          exact keeps_kept (fun k hk => by have := HLO.out k hk; have := Z2.out; have := L1.out.size; have := HSs.out; omega) K6
    case done =>
      rintro D ys W hD hys ⟨hne, hB⟩ hK
      subst hys
      have hr : layL m b (key, u) (grps a g) = m := by
        have := hne []
        rw [List.append_nil] at this
        exact this
      have HR := Lib.hid hr
      clear hne hr
      have hl := HB0.out.trans (hB.mono (by omega))
      have HAW : Hid (At W p k0 k1 m) := A1.out.below (k := s) (Nat.le_of_eq HSs.out.symm) hl
      have LW : Hid (Below w2.heap.size w2 W) := L1.out.trans (hl.mono (by have := L1.out.size; have := HSs.out; omega))
      have HKW : Hid (Kept p.own w W) := Kept.of (L0.out.trans (LW.out.mono (by have := Z2.out; omega))) (Nat.le_refl _)
      go_wp2
      refine ⟨by simp, .inl ⟨_, _, rfl, run_takeDeferred hK, ?_⟩⟩
      refine ⟨_, results_none rfl _ _ _, rfl, ?_, ?_⟩
      · rw [HF.out, ← HG.out, HR.out]
        exact HAW.out.blocks fun j hj => (belowK_b (w := W0) (Nat.le_refl _) W D _ _ hD hK rfl rfl).block j (by have := HLO.out j hj; have := Z2.out; have := L1.out.size; have := HSs.out; omega)
      · exact HKW.out.bl (belowK_b (w := W0) (Nat.le_refl _) W D _ _ hD hK rfl rfl) (by have := Z2.out; have := L1.out.size; have := HSs.out; omega)
    case stop =>
      rintro D c pre W hD hpre ⟨hA, ⟨rfl, hst⟩, hB⟩ hK
      have hr : layL m b (key, u) (grps a g) = layL m b (key, u) (pre.map (el a g)) := by
        obtain ⟨r, hr⟩ := hpre
        have := hst (r.map (el a g))
        rw [← List.map_append, hr] at this
        exact this
      have HR := Lib.hid hr
      clear hst hr hpre
      have HAW := Lib.hid hA
      have HKW : Hid (Kept p.own w W) := (Kept.of (L0.out.trans (L1.out.mono (by have := Z2.out; omega))) (Nat.le_refl _)).join hB (fun _ h => h) (fun _ _ h => h)
      clear hA hB
      gi_wp2
      refine ⟨by simp, .inl ⟨_, _, rfl, run_takeDeferred hK, ?_⟩⟩
      refine ⟨_, results_none rfl _ _ _, rfl, ?_, ?_⟩
      · rw [HF.out, ← HG.out, HR.out]
        exact HAW.out.blocks fun j hj => (belowK_b (w := W0) (Nat.le_refl _) W D _ _ hD hK rfl rfl).block j (by have := HLO.out j hj; have := Z2.out; have := L1.out.size; have := HSs.out; omega)
      · exact HKW.out.bl (belowK_b (w := W0) (Nat.le_refl _) W D _ _ hD hK rfl rfl) (by have := Z2.out; have := L1.out.size; have := HSs.out; omega)
end Go.Proofs.YtcooapflofiolaaDoor.MS

/- made, Len, Tombs and Get, over maps of texts. -/
namespace Go.Proofs.YtcooapflofiolaaDoor.MS
open Go Go.RowKit Go.Shelf
set_option linter.unusedVariables false
set_option linter.unusedSimpArgs false
set_option maxRecDepth 100000
set_option maxHeartbeats 2000000
theorem made_any (p : Pl) (k0 k1 : BitVec 64) (m : Mp VT) (w : World) (h : At w p k0 k1 m) (h1 : 1 ≤ m.ws.length) :
    Calls Tryd.prog 65 #[.pointer (some ⟨p.b, 0, none⟩)] w fun e w' => e = .returned (.bool true) ∧ w = w' := by
  have c2 := h.c2
  have hl := h.cw
  have hp : (0 : Int) < (m.ws.length : Int) := by omega
  clear h
  go_enter Tryd.func65, Tryd.ntmps65
  go_wp2
  go_ret
  exact ⟨ret_bool (decide_eq_true h1), rfl⟩
theorem len_any (p : Pl) (k0 k1 : BitVec 64) (m : Mp VT) (w : World) (h : At w p k0 k1 m) (h1 : 1 ≤ m.ws.length) :
    Calls Tryd.prog 18 #[.pointer (some ⟨p.b, 0, none⟩)] w fun e w' => e = .returned (.int .i64 (m.n : Nat)) ∧ w = w' := by
  have HM := Lib.hid (made_any p k0 k1 m w h h1)
  have c4 := h.c4
  clear h
  go_enter Tryd.func18, Tryd.ntmps18
  go_wp2_with (go_at_call 65; refine HM.out.mono ?_; rintro e w' ⟨rfl, rfl⟩)
  go_ret
  exact ⟨rfl, rfl⟩
theorem tombs_any (p : Pl) (k0 k1 : BitVec 64) (m : Mp VT) (w : World) (h : At w p k0 k1 m) (h1 : 1 ≤ m.ws.length) :
    Calls Tryd.prog 36 #[.pointer (some ⟨p.b, 0, none⟩)] w fun e w' => e = .returned (.int .i64 (m.tb : Nat)) ∧ w = w' := by
  have HM := Lib.hid (made_any p k0 k1 m w h h1)
  have c5 := h.c5
  clear h
  go_enter Tryd.func36, Tryd.ntmps36
  go_wp2_with (go_at_call 65; refine HM.out.mono ?_; rintro e w' ⟨rfl, rfl⟩)
  go_ret
  exact ⟨rfl, rfl⟩
/-- What Get answers. -/
def getV (H : ByteArray → Nat) (m : Mp VT) (key : ByteArray) : VT × Bool :=
  match find H m key with
  | some i => ((m.s i).2, true)
  | none => (default, false)
theorem get_any (p : Pl) (k0 k1 : BitVec 64) (m : Mp VT) (key : ByteArray) (hks : key.size ≤ maxLen) (w : World) (h : At w p k0 k1 m) (I : MInv (hashN k0 k1) m) :
    Calls Tryd.prog 19 #[.pointer (some ⟨p.b, 0, none⟩), .string key] w fun e w' => e = .returned (.tuple #[val (getV (hashN k0 k1) m key).1, .bool (getV (hashN k0 k1) m key).2]) ∧ Below w.heap.size w w' := by
  have HM := Lib.hid (made_any p k0 k1 m w h I.len.1)
  have HFi := Lib.hid (find_any p k0 k1 m key hks w h I)
  have HA := Lib.hid h
  have HI := Lib.hid I
  clear h I hks
  cases hf : find (hashN k0 k1) m key with
  | none =>
    have HG : Hid (getV (hashN k0 k1) m key = (default, false)) := by show _ = _; unfold getV; rw [hf]
    rw [hf] at HFi
    clear hf
    go_enter Tryd.func19, Tryd.ntmps19
    go_wp2_with fail
    refine HM.out.mono ?_
    rintro e w' ⟨rfl, rfl⟩
    go_wp2_with fail
    refine HFi.out.mono ?_
    rintro e w' ⟨rfl, hb⟩
    have HB := Lib.hid hb
    clear hb
    rw [show toI none = -1 from rfl]
    go_wp2
    go_ret2
    rw [HG.out]
    exact ⟨rfl, HB.out⟩
  | some i =>
    obtain ⟨hi, _, _⟩ := find_some HI.out hf
    have HG : Hid (getV (hashN k0 k1) m key = ((m.s i).2, true)) := by show _ = _; unfold getV; rw [hf]
    rw [hf] at HFi
    clear hf
    have hlt := HI.out.len
    go_enter Tryd.func19, Tryd.ntmps19
    go_wp2_with fail
    refine HM.out.mono ?_
    rintro e w' ⟨rfl, rfl⟩
    go_wp2_with fail
    refine HFi.out.mono ?_
    rintro e w' ⟨rfl, hb⟩
    have HB := Lib.hid hb
    have A := HA.out.below (Nat.le_refl _) hb
    have c3 := A.c3
    have sv := A.sv hi
    have hi' : (i : Int) < 8 * (m.ws.length : Int) := by omega
    clear hb A
    rw [show toI (some i) = (i : Int) from rfl]
    go_wp2
    go_ret2
    rw [HG.out]
    exact ⟨rfl, HB.out⟩
end Go.Proofs.YtcooapflofiolaaDoor.MS

/- Appending within a region that draws; rows; the slots that have a key, in their order. -/
namespace Go.Proofs.YtcooapflofiolaaDoor
open Go Go.RowKit
set_option linter.unusedSimpArgs false
set_option linter.unusedVariables false
set_option linter.unusedSectionVars false
set_option maxRecDepth 100000
variable {V : Type} [Inhabited V]
/-- The full slots ahead of a place. -/
def accF (m : Mp V) (j : Nat) : List (ByteArray × V) := ((List.range j).filter fun i => decide (m.c i < 128)).map m.s
theorem accF_succ (m : Mp V) (j : Nat) : accF m (j + 1) = accF m j ++ (if m.c j < 128 then [m.s j] else []) := by
  unfold accF
  rw [List.range_succ, List.filter_append, List.map_append]
  congr 1
  by_cases h : m.c j < 128 <;> simp [h]
theorem accF_skip (m : Mp V) (a : Nat) : ∀ d, (∀ i, a ≤ i → i < a + d → ¬ m.c i < 128) → accF m (a + d) = accF m a
  | 0, _ => rfl
  | d + 1, h => by
    rw [← Nat.add_assoc, accF_succ, if_neg (h (a + d) (by omega) (by omega)), List.append_nil, accF_skip m a d (fun i h1 h2 => h i h1 (by omega))]
theorem accF_full (m : Mp V) : accF m (8 * m.ws.length) = fullL m := rfl
theorem accF_len (m : Mp V) (j : Nat) : (accF m j).length ≤ j := by
  unfold accF; rw [List.length_map]; have := List.length_filter_le (fun i => decide (m.c i < 128)) (List.range j); rwa [List.length_range] at this
def flatS (val : V → Value) (l : List (ByteArray × V)) : List Value := l.flatMap fun s => [.string s.1, val s.2]
theorem flatS_len (val : V → Value) (l : List (ByteArray × V)) : (flatS val l).length = l.length * 2 := by
  induction l with
  | nil => rfl
  | cons s l ih => simp only [flatS, List.flatMap_cons, List.length_append] at *; rw [ih]; simp; omega
theorem flatS_app (val : V → Value) (l r : List (ByteArray × V)) : flatS val (l ++ r) = flatS val l ++ flatS val r := by simp [flatS]
theorem flatS_at (val : V → Value) : ∀ (l : List (ByteArray × V)) (j : Nat), j < l.length → (flatS val l)[j * 2]? = some (.string (l.getD j default).1) ∧ (flatS val l)[j * 2 + 1]? = some (val (l.getD j default).2)
  | s :: l, 0, _ => by simp [flatS]
  | s :: l, j + 1, h => by
    have := flatS_at val l j (by simpa using h)
    have e : flatS val (s :: l) = Value.string s.1 :: val s.2 :: flatS val l := rfl
    rw [e, show (j + 1) * 2 = j * 2 + 1 + 1 by omega, List.getElem?_cons_succ, List.getElem?_cons_succ, List.getElem?_cons_succ, List.getElem?_cons_succ]
    simpa using this
/-- What a row holds is read. -/
theorem own_read {w : World} {base e size n : Nat} {v : Value} {xs : List Value} (h : w.ownsRow base e size v n xs) (hn : 0 < n) : ∃ g cap, v = .slice (some ⟨g, 0, none⟩) n cap ∧ n ≤ cap ∧ base ≤ g ∧ g < w.heap.size ∧ ∀ j x, xs[j]? = some x → w.cell? ⟨g, j, none⟩ = some x := by
  obtain ⟨h1, h2⟩ := h
  rcases h2 with ⟨_, h0⟩ | ⟨g, cap, cur, rfl, h3, h4, h5, h6, h7, h8⟩
  · omega
  · refine ⟨g, cap, rfl, h5, h3, (Array.getElem?_eq_some_iff.1 h4).1, fun j x hx => ?_⟩
    rw [cell_of_row _ _ _ _ _ _ h4]
    rw [← h8, List.getElem?_take] at hx
    split at hx
    · simpa using hx
    · cases hx
theorem own_val {w : World} {base e size n : Nat} {v : Value} {xs : List Value} (h : w.ownsRow base e size v n xs) : ∃ a c, v = .slice a n c ∧ n ≤ c := by
  rcases h.2 with ⟨rfl, rfl⟩ | ⟨g, cap, cur, rfl, h3, h4, h5, h6, h7, h8⟩
  · exact ⟨none, 0, rfl, Nat.le_refl _⟩
  · exact ⟨_, _, rfl, h5⟩
theorem own_below {w w' : World} {base e size n : Nat} {v : Value} {xs : List Value} {m : Nat} (h : w.ownsRow base e size v n xs) (hm : w.heap.size ≤ m) (hb : Below m w w') : w'.ownsRow base e size v n xs := by
  refine ⟨h.1, ?_⟩
  rcases h.2 with h0 | ⟨g, cap, cur, h1, h2, h3, h4⟩
  · exact .inl h0
  · exact .inr ⟨g, cap, cur, h1, h2, (hb.block g (Nat.lt_of_lt_of_le (Array.getElem?_eq_some_iff.1 h3).1 hm)).trans h3, h4⟩
theorem own_kept {w w' : World} {base e size n : Nat} {v : Value} {xs : List Value} {S : Nat → Prop} (h : w.ownsRow base e size v n xs) (hk : Kept S w w') (hs : ∀ j, base ≤ j → ¬ S j) : w'.ownsRow base e size v n xs := by
  refine ⟨h.1, ?_⟩
  rcases h.2 with h0 | ⟨g, cap, cur, h1, h2, h3, h4⟩
  · exact .inl h0
  · exact .inr ⟨g, cap, cur, h1, h2, (hk.block g (Array.getElem?_eq_some_iff.1 h3).1 (hs g h2)).trans h3, h4⟩
theorem new2 (W : World) (x y : Value) (t : TypeId) : ∀ j u, [x, y][j]? = some u → (W.alloc (.cells #[x, y] t)).drew.cell? (Addr.add ⟨W.heap.size, 0, none⟩ j) = some u := by
  intro j u h
  match j with
  | 0 => simp at h; subst h; simp [Addr.add]
  | 1 => simp at h; subst h; simp [Addr.add]
  | j + 2 => simp at h
/-- A call of a Go function, as one step of a region that draws. -/
theorem step_call {P : Program} {ops : Array Oper} {o : Oper} {a : Act} {w : World} {K : Act → World → Prop} {Q : Exit → Act → World → Prop} {E : Prop} (hgd : o.guard = none) (f : FuncId) (args : Array Value) (ho : ∃ us ats, o.op = .call { callee := .value (.func f), args := us, argTypes := ats })
    (hr : (execOp a.eval o).run P w = .ok (.enter f args) w) (hc : Calls P f args w fun e w' => ∃ v, e = .returned v ∧ K (a.put o.dst v) w') :
    if Region.wanted o (yielded ops a.tmps) = true then Oper.wp P o a w K Q else E := by
  have hw : Region.wanted o (yielded ops a.tmps) = true := by simp [Region.wanted, hgd]
  rw [if_pos hw]
  unfold Oper.wp
  rw [hr]
  refine hc.mono ?_
  rintro e w' ⟨v, rfl, h⟩
  exact h
theorem step_own {P : Program} {ops : Array Oper} {o : Oper} {a : Act} {w : World} {K : Act → World → Prop} {Q : Exit → Act → World → Prop} {E : Prop} (hgd : o.guard = none) (s x : Operand) (t : TypeId)
    (ho : o.op = .call { callee := .builtin .append, args := #[s, x], argTypes := #[t, t] }) (base e : Nat) (z : Value) (size bytes : Nat) (ht : P.underlying t = some (.slice e))
    (hinfo : (P.info? e).map (fun i => (i.zero, i.size, i.bytes)) = some (some z, size, bytes)) (hzs : z.cells.size = size) (hsz : 0 < size)
    (v : Value) (n : Nat) (xs : List Value) (hs : a.eval s = v) (hX : w.ownsRow base e size v n xs) (hb : base ≤ w.heap.size)
    (q : Addr) (m c : Nat) (hx : a.eval x = .slice (some q) m c) (ys : List Value) (hl : ys.length = m * size) (hY : ∀ j u, ys[j]? = some u → w.cell? (q.add j) = some u) (h1 : ∀ u ∈ ys, u.oneCell' = true)
    (h63 : n + m ≤ maxLen) (hbytes : (n + m) * bytes ≤ 140737488355328)
    (h : ∀ v' w', w'.ownsRow base e size v' (n + m) (xs ++ ys) → Below base w w' → K (a.put o.dst v') w') :
    if Region.wanted o (yielded ops a.tmps) = true then Oper.wp P o a w K Q else E := by
  have hw : Region.wanted o (yielded ops a.tmps) = true := by simp [Region.wanted, hgd]
  rw [if_pos hw]
  obtain ⟨i0, hi, hz0, hz1, hz2⟩ := info_parts hinfo
  obtain ⟨v', w', hr, h2, h3, _, h5⟩ := run_append_own_at (P := P) w base t o.type e i0 z size bytes ht hi hz0 hz1 hz2 hzs hsz v n xs hX q m c ys hl hY h1 h63 hbytes hb
  unfold Oper.wp execOp
  simp only [ho, resolve, invoke, builtin, Sem.run_bind, Sem.run_pure, Result.andThen_ok, List.map_toArray, List.map_cons, List.map_nil, hs, hx, hr]
  exact h v' w' h2 ((Below.refl _ w).grown h3 hb (fun k ek => (hX.lt k ek).1))
theorem wpList_runT {P : Program} (t : TypeId) {ops : Array Oper} {rest : List Oper} {o : Oper} {a : Act} {w : World} {Q : Exit → Act → World → Prop} (hgd : o.guard = none) (s x : Operand)
    (ho : o.op = .call { callee := .builtin .append, args := #[s, x], argTypes := #[t, t] }) (vs vx : Value) (hs : a.eval s = vs) (hx : a.eval x = vx)
    (v' : Value) (w' : World) (hr : (Builtin.append_ #[t, t] o.type #[vs, vx]).run P w = .ok v' w') (h : wpList P ops Q rest (a.put o.dst v') w') : wpList P ops Q (o :: rest) a w :=
  wpList_plain hgd fun K hK => by
    unfold Oper.wp execOp
    simp only [ho, resolve, invoke, builtin, Sem.run_bind, Sem.run_pure, Result.andThen_ok, List.map_toArray, List.map_cons, List.map_nil, hs, hx, hr]
    exact hK _ _ h
theorem flatS_get (val : V → Value) (l : List (ByteArray × V)) {j : Nat} {u : Value} (h : (flatS val l)[j]? = some u) : j / 2 < l.length ∧ ((j % 2 = 0 ∧ u = .string (l.getD (j / 2) default).1) ∨ (j % 2 = 1 ∧ u = val (l.getD (j / 2) default).2)) := by
  have hj : j < l.length * 2 := by have := (List.getElem?_eq_some_iff.1 h).1; rwa [flatS_len] at this
  have h2 := flatS_at val l (j / 2) (by omega)
  refine ⟨by omega, ?_⟩
  rcases Nat.mod_two_eq_zero_or_one j with e | e
  · rw [show j / 2 * 2 = j by omega, h] at h2
    exact .inl ⟨e, by simpa using h2.1⟩
  · rw [show j / 2 * 2 + 1 = j by omega, h] at h2
    exact .inr ⟨e, by simpa using h2.2⟩
def wordsV (m : Mp V) : List Value := m.ws.map fun x => Value.int .u64 (x : Nat)
theorem wordsV_at (m : Mp V) {j : Nat} {u : Value} (h : (wordsV m)[j]? = some u) : j < m.ws.length ∧ u = .int .u64 (m.w j : Nat) := by
  have hj : j < m.ws.length := by have := (List.getElem?_eq_some_iff.1 h).1; simpa [wordsV] using this
  refine ⟨hj, ?_⟩
  simp [wordsV, hj] at h
  rw [← h]
  unfold Mp.w
  simp [List.getD_eq_getElem?_getD, hj]
theorem wordsV_len (m : Mp V) : (wordsV m).length = m.ws.length := List.length_map _
end Go.Proofs.YtcooapflofiolaaDoor

/- full, over maps of texts. -/
namespace Go.Proofs.YtcooapflofiolaaDoor.MS
open Go Go.RowKit Go.Shelf
set_option linter.unusedVariables false
set_option linter.unusedSimpArgs false
set_option maxRecDepth 100000
set_option maxHeartbeats 4000000
theorem infoS : (Tryd.prog.info? 109).map (fun i => (i.zero, i.size, i.bytes)) = some (some (.agg #[.string ByteArray.empty, val default]), 2, 32) := by kernel_rfl
theorem fulls_any (p : Pl) (k0 k1 : BitVec 64) (m : Mp VT) (w : World) (h : At w p k0 k1 m) (I : MInv (hashN k0 k1) m) :
    Calls Tryd.prog 78 #[.pointer (some ⟨p.b, 0, none⟩)] w fun e w' => ∃ v, e = .returned v ∧ w'.ownsRow w.heap.size 109 2 v m.n (flatS val (fullL m)) ∧ Below w.heap.size w w' := by
  have c2 := h.c2
  have hl := I.len
  have HA := Lib.hid h
  have HI := Lib.hid I
  have HFL := Lib.hid (full_len I)
  obtain ⟨g, hg⟩ : ∃ g, g = m.ws.length := ⟨_, rfl⟩
  rw [← hg] at hl c2
  have HG := Lib.hid hg
  obtain ⟨s, hs⟩ : ∃ s, s = w.heap.size := ⟨_, rfl⟩
  have HS := Lib.hid hs
  clear h I hg hs
  go_enter Tryd.func78, Tryd.ntmps78
  go_wp2
  go_loopw [3, 12] (fun v i wr => ∃ k : Nat, k ≤ g ∧ i = .int .i64 k ∧ wr.ownsRow s 109 2 v (accF m (8 * k)).length (flatS val (accF m (8 * k))) ∧ Below s w wr) (fun _ i _ => g - (intOf i).toNat)
  case atStart => exact ⟨0, Nat.zero_le _, rfl, World.ownsRow_nil _ _ _ _, Below.refl _ _⟩
  case round =>
    obtain ⟨k, hk, rfl, hrow, hB⟩ := hrel
    obtain ⟨wo, hwo⟩ : ∃ wo, wo = wr := ⟨_, rfl⟩
    subst hwo
    have HR := Lib.hid hrow
    have HB := Lib.hid hB
    have HAr : Hid (At wo p k0 k1 m) := HA.out.below (Nat.le_of_eq HS.out.symm) hB
    clear hrow hB
    by_cases hlt : k < g
    · have hlt' : decide ((k : Int) < (g : Int)) = true := decide_eq_true (by omega)
      have zw := HAr.out.wc (j := k) (by rw [← HG.out]; exact hlt)
      have hv := HI.out.wl k
      obtain ⟨x, hx⟩ : ∃ x, x = m.w k := ⟨_, rfl⟩
      rw [← hx] at zw hv
      have HV := Lib.hid hv
      have HX := Lib.hid hx
      clear hv hx
      go_wp2_with (go_at_call 110; refine (Go.Proofs.YtcooapflofiolaaDoor.full_any x HV.out _).mono ?_; rintro e w' ⟨rfl, rfl⟩)
      go_loopw [3, 6] (fun v st wi => ∃ n t : Nat, n < 256 ∧ t ≤ 8 ∧ st = .int .u8 n ∧ (∀ i, i < 8 → n.testBit i = (decide (t ≤ i) && (ful x).testBit i)) ∧ wi.ownsRow s 109 2 v (accF m (8 * k + t)).length (flatS val (accF m (8 * k + t))) ∧ Below s w wi) (fun _ st _ => (intOf st).toNat)
      case atStart => exact ⟨ful x, 0, ful_lt x, Nat.zero_le _, rfl, fun i hi => by simp, HR.out, HB.out⟩
      case round =>
        obtain ⟨n, t, hn, ht, rfl, hbits, hrow, hB⟩ := hrel
        have HBT := Lib.hid hbits
        have HRI := Lib.hid hrow
        have HBI := Lib.hid hB
        have HAi : Hid (At wr p k0 k1 m) := HA.out.below (Nat.le_of_eq HS.out.symm) hB
        clear hbits hrow hB zw
        by_cases h0 : n = 0
        · have hd0 : ((n : Int) == 0) = true := by simpa using h0
          have hd1 : ((n : Int) != 0) = false := by simpa using h0
          have H0 := Lib.hid h0
          clear h0
          go_wp2
          have hsk : accF m (8 * (k + 1)) = accF m (8 * k + t) := by
            have := accF_skip m (8 * k + t) (8 - t) (fun i h1 h2 hc => by
              have h3 := HBT.out (i - 8 * k) (by omega)
              rw [H0.out, bit_ful x (i - 8 * k) (by omega), HX.out, ← c_at m k (by omega), show 8 * k + (i - 8 * k) = i by omega] at h3
              simp [hc] at h3; omega)
            rwa [show 8 * k + t + (8 - t) = 8 * (k + 1) by omega] at this
          go_roundw
          case rel => exact ⟨k + 1, by omega, by go_num, by rw [hsk]; exact HRI.out, HBI.out⟩
          case measure => simp [intOf]; omega
        · have hd0 : ((n : Int) == 0) = false := by simpa using h0
          have hd1 : ((n : Int) != 0) = true := by simpa using h0
          have hf := first_lt hn h0
          have HF1 := Lib.hid (first_bit hn h0)
          have HLE : Hid (∀ i, i < 8 → n.testBit i = true → firstF n ≤ i) := fun i hi h => first_le hn hi h
          have HNB : Hid (∀ i, i < 8 → (nextF n).testBit i = (n.testBit i && i != firstF n)) := fun i hi => next_bit hn hi
          have hnl := next_lt hn h0
          have HC1 : Hid (∀ W, Calls Tryd.prog 103 #[.int .u8 (n : Int)] W (fun e w' => e = .returned (.int .i64 (firstF n : Nat)) ∧ W = w')) := fun W => first_any n hn W
          have HC2 : Hid (∀ W, Calls Tryd.prog 102 #[.int .u8 (n : Int)] W (fun e w' => e = .returned (.int .u8 (nextF n : Nat)) ∧ W = w')) := fun W => next_any n hn W
          clear h0
          obtain ⟨q, hq⟩ : ∃ q, q = firstF n := ⟨_, rfl⟩
          rw [← hq] at hf HF1 HLE HNB HC1
          have HQ := Lib.hid hq
          clear hq
          obtain ⟨ii, hii⟩ : ∃ ii : Nat, ii = 8 * k + q := ⟨_, rfl⟩
          have hiq : ii < 8 * g := by omega
          have hiq2 : (ii : Int) < 8 * (g : Int) := by omega
          have y3 := HAi.out.c3
          rw [← HG.out] at y3
          have sk := HAi.out.sk (i := ii) (by rw [← HG.out]; exact hiq)
          have sv := HAi.out.sv (i := ii) (by rw [← HG.out]; exact hiq)
          have hw1 : IntKind.i64.wrap (8 * (k : Int)) = 8 * (k : Int) := IntWalk.i64_in _ (by omega)
          have hw2 : IntKind.i64.wrap (8 * (k : Int) + (q : Int)) = (ii : Int) := by rw [IntWalk.i64_in _ (by omega)]; omega
          have HII := Lib.hid hii
          have hal := accF_len m (8 * k + t)
          clear hii
          obtain ⟨kk, hkk⟩ : ∃ kk, kk = m.s ii := ⟨_, rfl⟩
          rw [← hkk] at sk sv
          have HKK := Lib.hid hkk
          clear hkk
          go_upto_region 8 with fail
          have LA : Hid (Below wr.heap.size wr ((wr.alloc (.cells #[.string kk.1, val kk.2] 109)).drew)) := ((Below.refl _ wr).alloc (Nat.le_refl _) _).drew
          have hz : s ≤ wr.heap.size := by have := HBI.out.size; have := HS.out; omega
          go_region_law (first
            | (refine step_call rfl 103 #[.int .u8 (n : Int)] ⟨_, _, rfl⟩ (by go_simp) ((HC1.out _).mono ?_); rintro e w' ⟨rfl, rfl⟩; refine ⟨_, rfl, ?_⟩)
            | (refine step_own rfl _ _ 104 rfl s 109 _ 2 32 Tryd.underlying104 infoS rfl (by decide) _ _ _ rfl (own_below HRI.out (Nat.le_refl _) LA.out) (Nat.le_trans hz LA.out.size) ⟨wr.heap.size, 0, none⟩ 1 1 rfl [.string kk.1, val kk.2] rfl (new2 wr _ _ 109) (by simp [Value.oneCell']) (by simp only [maxLen]; omega) (by omega) ?_; intro v' w1 ho1 hb1))
          all_goals (
            have HO := Lib.hid ho1
            have HB2 : Hid (Below s w w1) := (HBI.out.trans (LA.out.mono hz)).trans hb1
            clear ho1 hb1 sk sv y3 hw1 hw2
            go_wp2_with (go_at_call 102; refine (HC2.out _).mono ?_; rintro e w' ⟨rfl, rfl⟩)
            have htq : t ≤ q := by
              have := HBT.out q hf
              rw [HF1.out] at this
              simp at this; omega
            have hfull : ∀ i, i < 8 → ((ful x).testBit i = decide (m.c (8 * k + i) < 128)) := fun i hi => by rw [bit_ful x i hi, HX.out, ← c_at m k hi]
            have hq128 : m.c ii < 128 := by
              have := HBT.out q hf
              rw [HF1.out, hfull q hf] at this
              simp at this; rw [HII.out]; exact this.2
            have hsk : accF m (8 * k + q) = accF m (8 * k + t) := by
              have := accF_skip m (8 * k + t) (q - t) (fun i h1 h2 hc => by
                have h3 := HBT.out (i - 8 * k) (by omega)
                rw [hfull _ (by omega), show 8 * k + (i - 8 * k) = i by omega] at h3
                have h4 : n.testBit (i - 8 * k) = true := by rw [h3]; simp [hc]; omega
                have := HLE.out _ (by omega) h4
                omega)
              rwa [show 8 * k + t + (q - t) = 8 * k + q by omega] at this
            have hnew : accF m (8 * k + (q + 1)) = accF m (8 * k + t) ++ [m.s ii] := by
              rw [← Nat.add_assoc, accF_succ, hsk, ← HII.out, if_pos hq128]
            go_roundw
            case rel =>
              refine ⟨nextF n, q + 1, by omega, by omega, rfl, fun i hi => ?_, ?_, HB2.out⟩
              · rw [HNB.out i hi, HBT.out i hi]
                rcases Nat.lt_trichotomy i q with h | h | h
                · have h5 : n.testBit i = false := by
                    cases hb : n.testBit i with
                    | false => rfl
                    | true => have := HLE.out i hi hb; omega
                  rw [HBT.out i hi] at h5
                  rw [h5, decide_eq_false (show ¬ q + 1 ≤ i by omega)]; rfl
                · subst h; simp; omega
                · rw [decide_eq_true (show t ≤ i by omega), decide_eq_true (show q + 1 ≤ i by omega)]
                  have : (i != q) = true := by simp; omega
                  rw [this]; simp
              · rw [hnew, flatS_app, List.length_append, ← HKK.out]; exact HO.out
            case measure => simp [intOf]; omega)
    · have hlt' : decide ((k : Int) < (g : Int)) = false := decide_eq_false (by omega)
      go_wp2
      obtain rfl : k = g := by omega
      refine bodyPost_ret (v := u3) ?_ rfl ⟨_, rfl, ?_, ?_⟩
      · simp [results, Tryd.results78, go_sem]
      · rw [← HFL.out, ← accF_full, ← HG.out, ← HS.out]; exact HR.out
      · rw [← HS.out]; exact HB.out
end Go.Proofs.YtcooapflofiolaaDoor.MS

/- slices.Repeat of one word; bits.Mul with one. -/
namespace Go.Proofs.YtcooapflofiolaaDoor
open Go Go.RowKit Go.Shelf
set_option linter.unusedVariables false
set_option linter.unusedSimpArgs false
set_option maxRecDepth 100000
set_option maxHeartbeats 4000000
theorem mul64_one (g : Nat) (hg : g ≤ 1024) (w : World) : Calls Tryd.prog 125 #[.int .u64 1, .int .u64 (g : Int)] w fun e w' => e = .returned (.tuple #[.int .u64 0, .int .u64 (g : Int)]) ∧ w = w' := by
  have e1 : bits .and .u64 (g : Int) 4294967295 = (g : Int) := by
    have := bits_and_u64_nat g 4294967295 (by omega) (by omega)
    rw [show ((4294967295 : Nat) : Int) = 4294967295 from rfl, show (4294967295 : Nat) = 2 ^ 32 - 1 from rfl, Nat.and_two_pow_sub_one_eq_mod] at this
    rw [this]; omega
  have e2 : bits .and .u64 1 4294967295 = 1 := by decide +kernel
  have e3 : bits .and .u64 0 4294967295 = 0 := by decide +kernel
  have e4 : (g : Int) / 4294967296 = 0 := by omega
  go_enter Tryd.func125, Tryd.ntmps125
  go_wp2
  go_ret2
  simp [e4, e3]
theorem mul_one' (g : Nat) (hg : g ≤ 1024) (w : World) : Calls Tryd.prog 111 #[.int .u64 1, .int .u64 (g : Int)] w fun e w' => e = .returned (.tuple #[.int .u64 0, .int .u64 (g : Int)]) ∧ w = w' := by
  have H := Lib.hid (mul64_one g hg w)
  go_enter Tryd.func111, Tryd.ntmps111
  go_wp2_with (go_at_call 125; refine H.out.mono ?_; rintro e w' ⟨rfl, rfl⟩)
  go_ret2
  exact ⟨rfl, rfl⟩
theorem infoW : (Tryd.prog.info? 22).map (fun i => (i.zero, i.size, i.bytes)) = some (some (.int .u64 0), 1, 8) := by kernel_rfl
theorem sizeW : (Tryd.prog.info? 22).map (·.size) = some 1 := by kernel_rfl
/-- So many cells of one word, then others of nought. -/
def reps (x : Value) (n d : Nat) : List Value := List.replicate n x ++ List.replicate d (.int .u64 0)
theorem reps_len (x : Value) (n d : Nat) : (reps x n d).length = n + d := by simp [reps]
theorem reps_splice (x : Value) (n d k : Nat) (hk : k ≤ d) : splice (reps x n d) n (List.replicate k x) = reps x (n + k) (d - k) := by
  unfold splice reps
  rw [List.length_replicate, List.take_left' (by simp), ← List.drop_drop, List.drop_left' (by simp), List.drop_replicate, ← List.append_assoc, List.replicate_append_replicate]
theorem splice0 (y x : Value) (g : Nat) (hg : 1 ≤ g) : splice (reps y 0 g) 0 [x] = reps x 1 (g - 1) := by
  have h0 : reps y 0 g = reps x 0 g := rfl
  have := reps_splice x 0 g 1 hg
  rw [h0]
  simpa using this
theorem madeW (g : Nat) : (madeCells (Value.int .u64 0).cells (g * 1)) = (reps (.int .u64 0) 0 g).toArray := by
  unfold madeCells reps
  rw [Nat.mul_one]
  simp only [List.replicate_zero, List.nil_append]
  apply Array.ext
  · simp
  · intro i h1 h2
    simp [Value.cells, Nat.mod_one]
theorem repeat_any (gx : Nat) (x : Int) (cx : Nat) (g : Nat) (h1 : 1 ≤ g) (hg : g ≤ 1024) (w : World) (hx : w.cell? ⟨gx, 0, none⟩ = some (.int .u64 x)) :
    Calls Tryd.prog 96 #[.slice (some ⟨gx, 0, none⟩) 1 cx, .int .i64 (g : Int)] w fun e w' => ∃ b, e = .returned (.slice (some ⟨b, 0, none⟩) g g) ∧ w'.heap[b]? = some (.cells (List.replicate g (Value.int .u64 x)).toArray 22 (0, 0)) ∧ w.heap.size ≤ b ∧ Below w.heap.size w w' := by
  have HM := Lib.hid (mul_one' g hg w)
  obtain ⟨i0, hi, hz0, hz1, hz2⟩ := info_parts infoW
  have hmk : ∀ W : World, (Instr.makeSlice 60 (.int .i64 (g : Int)) (.int .i64 (g : Int))).run Tryd.prog W = .ok (.slice (some ⟨W.heap.size, 0, none⟩) g g) (W.alloc (.cells (reps (.int .u64 0) 0 g).toArray 22)) := fun W => by
    have := run_make (P := Tryd.prog) W 60 22 i0 (.int .u64 0) Tryd.underlying60 hi hz0 .i64 .i64 g g (by omega) (Int.le_refl _) (by rw [hz2]; omega) (by omega)
    rw [Int.toNat_natCast, hz1, madeW] at this
    exact this
  have HMK := Lib.hid hmk
  have hgx : gx < w.heap.size := cell_lt hx
  clear hmk hi hz0 hz1 hz2
  obtain ⟨s, hs⟩ : ∃ s, s = w.heap.size := ⟨_, rfl⟩
  have HS := Lib.hid hs
  clear hs
  have hd0 : decide ((g : Int) < 0) = false := decide_eq_false (by omega)
  have hmk := HMK.out w
  go_enter Tryd.func96, Tryd.ntmps96
  have hd1 : decide ((9223372036854775807 : Int) < (g : Int)) = false := decide_eq_false (by omega)
  have hc0 : ∀ j v, [Value.int .u64 x][j]? = some v → (w.alloc (.cells (reps (.int .u64 0) 0 g).toArray 22)).cell? (Addr.add ⟨gx, 0, none⟩ j) = some v := fun j v h => by
    match j with
    | 0 => simp at h; subst h; rw [Addr.add_lit]; exact low_cell ((Below.refl _ w).alloc (Nat.le_refl _) _) (Nat.le_refl _) hx
    | j + 1 => simp at h
  have HC0 := Lib.hid hc0
  have LA : Hid (Below s w (w.alloc (.cells (reps (.int .u64 0) 0 g).toArray 22))) := (Below.refl _ w).alloc (Nat.le_of_eq HS.out) _
  have hsz : s ≤ w.heap.size := Nat.le_of_eq HS.out
  clear hc0
  go_wp2_with (first
    | (go_at_call 111; refine HM.out.mono ?_; rintro e w' ⟨rfl, rfl⟩)
    | (with_reducible refine wpList_copy_splice rfl (.tmp 31) (.tmp 32) 60 60 rfl 22 Tryd.underlying60 sizeW (some ⟨w.heap.size, 0, none⟩) (some ⟨gx, 0, none⟩) g g 1 cx rfl rfl w.heap.size 0 (reps (.int .u64 0) 0 g) 22 (heap_alloc_new _ _) [.int .u64 x] ?c1 ?c2 ?c3 ?c4 s w LA.out hsz ?_))
  case c1 => show 1 = min 1 g; omega
  case c2 =>
    intro j v h
    match j with
    | 0 => simp at h; subst h; exact hx
    | j + 1 => simp at h
  case c3 => rw [reps_len]; simp; omega
  case c4 => intro v hv; rw [List.mem_singleton] at hv; subst hv; rfl
  intro w1 hw1 hb1
  have H1 : Hid (w1.heap[w.heap.size]? = some (.cells (reps (.int .u64 x) 1 (g - 1)).toArray 22 (0, 0))) := by have := hw1.out; rwa [splice0 _ _ _ h1] at this
  have HB1 := Lib.hid hb1
  clear hw1 hb1 hmk
  go_wp2
  go_loopw [8] (fun nv wr => ∃ n : Nat, 1 ≤ n ∧ n ≤ g ∧ nv = .int .i64 n ∧ wr.heap[w.heap.size]? = some (.cells (reps (.int .u64 x) n (g - n)).toArray 22 (0, 0)) ∧ Below s w wr) (fun nv _ => g - (intOf nv).toNat)
  case atStart => exact ⟨1, Nat.le_refl _, h1, rfl, H1.out, HB1.out⟩
  case round =>
    obtain ⟨n, hn1, hng, rfl, hrow, hB⟩ := hrel
    have HR := Lib.hid hrow
    have HB := Lib.hid hB
    clear hrow hB H1 HB1
    by_cases hlt : n < g
    · have hlt' : decide ((n : Int) < (g : Int)) = true := decide_eq_true (by omega)
      have hk : 1 ≤ Nat.min n (g - n) ∧ Nat.min n (g - n) ≤ g - n ∧ Nat.min n (g - n) ≤ n := by
        have := Nat.min_le_left n (g - n); have := Nat.min_le_right n (g - n)
        refine ⟨?_, by assumption, by assumption⟩
        show 1 ≤ min n (g - n); omega
      obtain ⟨k, hk0⟩ : ∃ k, k = Nat.min n (g - n) := ⟨_, rfl⟩
      rw [← hk0] at hk
      have HK := Lib.hid hk0
      clear hk0
      have hsrc : ∀ j v, (List.replicate k (Value.int .u64 x))[j]? = some v → wr.cell? (Addr.add ⟨w.heap.size, 0, none⟩ j) = some v := fun j v h => by
        rw [Addr.add_lit]
        have hj : j < k := by have := (List.getElem?_eq_some_iff.1 h).1; simpa using this
        rw [cell_of_row _ _ _ _ _ _ HR.out]
        have hn : j < n := by omega
        simp [reps, List.getElem?_append, hn, hj] at h ⊢
        exact h
      have HSRC : Hid (∀ j v, (List.replicate k (Value.int .u64 x))[j]? = some v → wr.drew.cell? (Addr.add ⟨w.heap.size, 0, none⟩ j) = some v) := hsrc
      have HBD : Hid (Below s w wr.drew) := HB.out.drew
      have hfit : n + (List.replicate k (Value.int .u64 x)).length ≤ (reps (.int .u64 x) n (g - n)).length := by rw [reps_len, List.length_replicate]; omega
      have hone : ∀ v ∈ List.replicate k (Value.int .u64 x), v.oneCell' = true := fun v hv => by rw [List.mem_replicate] at hv; rw [hv.2]; rfl
      have hlen : (List.replicate k (Value.int .u64 x)).length = Nat.min n (g - n) := by rw [List.length_replicate]; exact HK.out
      have HF := Lib.hid hfit
      have HO := Lib.hid hone
      have HL := Lib.hid hlen
      have hgk : goInt ((List.replicate k (Value.int .u64 x)).length : Int) = .int .i64 (k : Int) := by rw [List.length_replicate]; rfl
      have HGK := Lib.hid hgk
      obtain ⟨cs, hcs⟩ : ∃ cs, cs = List.replicate k (Value.int .u64 x) := ⟨_, rfl⟩
      rw [← hcs] at HSRC HF HO HL HGK
      have HCS := Lib.hid hcs
      have hwk : IntKind.i64.wrap ((n : Int) + (k : Int)) = ((n + k : Nat) : Int) := by rw [IntWalk.i64_in _ (by omega)]; omega
      have hn0 : ¬ (n = g) := by omega
      have hn0' : ¬ (g = n) := by omega
      clear hsrc hfit hone hlen hgk hcs
      go_upto_region 9 with fail
      go_region_law (refine step_copy_splice rfl (.tmp 41) (.tmp 44) 60 60 rfl 22 Tryd.underlying60 sizeW (some ⟨w.heap.size, n, none⟩) (some ⟨w.heap.size, 0, none⟩) (g - n) (g - n) n g (by simp [Act.eval, Act.put]) (by simp [Act.eval, Act.put]) w.heap.size n (reps (.int .u64 x) n (g - n)) 22 HR.out cs HL.out (fun _ => ⟨rfl, _, rfl, HSRC.out⟩) HF.out HO.out s w HBD.out hsz ?_; intro w2 hw2 hb2; rw [HGK.out])
      have HW2 : Hid (w2.heap[w.heap.size]? = some (.cells (reps (.int .u64 x) (n + k) (g - (n + k))).toArray 22 (0, 0))) := by
        have := hw2.out
        rw [HCS.out, reps_splice _ _ _ _ hk.2.1] at this
        rwa [show g - (n + k) = g - n - k by omega]
      have HB2 := Lib.hid hb2
      clear hw2 hb2
      clear hwk
      go_simp
      go_roundw
      case rel => exact ⟨.int .i64 ((n : Int) + (k : Int)), _, _, _, _, _, _, _, _, _, _, _, _, _, ⟨n + k, by omega, by omega, by go_num, HW2.out, HB2.out⟩, rfl⟩
      case measure => simp [intOf]; omega
    · have hlt' : decide ((n : Int) < (g : Int)) = false := decide_eq_false (by omega)
      go_wp2
      go_ret
      obtain rfl : n = g := by omega
      refine ⟨w.heap.size, rfl, ?_, Nat.le_refl _, by rw [← HS.out]; exact HB.out⟩
      have := HR.out
      rwa [reps, Nat.sub_self, List.replicate_zero, List.append_nil] at this
end Go.Proofs.YtcooapflofiolaaDoor

/- made and New, over maps of texts. -/
namespace Go.Proofs.YtcooapflofiolaaDoor.MS
open Go Go.RowKit Go.Shelf
set_option linter.unusedVariables false
set_option linter.unusedSimpArgs false
set_option maxRecDepth 100000
set_option maxHeartbeats 4000000
def zeroS : Array Value := #[.string ByteArray.empty, val default]
theorem made_zero (g j : Nat) (hj : j < 8 * g) : (madeCells zeroS (8 * g * 2))[j * 2]? = some (.string ByteArray.empty) ∧ (madeCells zeroS (8 * g * 2))[j * 2 + 1]? = some (val default) := by
  unfold madeCells
  constructor
  · rw [Array.getElem?_map, Array.getElem?_eq_getElem (by simp; omega), Array.getElem_range]
    have : j * 2 % zeroS.size = 0 := by show j * 2 % 2 = 0; omega
    simp only [Option.map_some, this]; rfl
  · rw [Array.getElem?_map, Array.getElem?_eq_getElem (by simp; omega), Array.getElem_range]
    have : (j * 2 + 1) % zeroS.size = 1 := by show (j * 2 + 1) % 2 = 1; omega
    simp only [Option.map_some, this]; rfl
theorem at_empty {w : World} {b bw bs : Nat} {k0 k1 : BitVec 64} {g : Nat} (hb : w.heap[b]? = some (.cells #[.int .u64 (Sip.U k0), .int .u64 (Sip.U k1), .slice (some ⟨bw, 0, none⟩) g g, .slice (some ⟨bs, 0, none⟩) (8 * g) (8 * g), .int .i64 0, .int .i64 0] 106 (0, 0)))
    (hw : w.heap[bw]? = some (.cells (List.replicate g (Value.int .u64 9259542123273814144)).toArray 22 (0, 0))) (hs : w.heap[bs]? = some (.cells (madeCells zeroS (8 * g * 2)) 109 (0, 0))) (n1 : b ≠ bw) (n2 : b ≠ bs) (n3 : bw ≠ bs) :
    At w ⟨b, bw, bs, g, 8 * g⟩ k0 k1 (empty g) := by
  have hl : (empty g : Mp VT).ws.length = g := List.length_replicate
  refine ⟨by rw [hl]; exact hb, ⟨_, hw, fun j hj => ?_⟩, ⟨_, hs, fun i hi => ?_⟩, by rw [hl]; exact Nat.le_refl _, by rw [hl]; exact Nat.le_refl _, n1, n2, n3⟩
  · rw [hl] at hj
    rw [empty_w]
    simp [hj, noneW]
  · rw [hl] at hi
    have e : (empty g : Mp VT).s i = default := by
      unfold Mp.s empty
      rw [List.getD_eq_getElem?_getD]
      simp only [List.getElem?_replicate]
      split <;> rfl
    rw [e]
    exact made_zero g i hi
theorem own_ge {b bw bs cw cs j lo : Nat} (h1 : lo ≤ b) (h2 : lo ≤ bw) (h3 : lo ≤ bs) (h : Pl.own ⟨b, bw, bs, cw, cs⟩ j) : lo ≤ j := by
  rcases h with h | h | h <;> (subst h; assumption)
theorem made_new (k0 k1 : BitVec 64) (g : Nat) (h1 : 1 ≤ g) (hg : g ≤ 1024) (w : World) :
    Calls Tryd.prog 63 #[.agg #[.int .u64 (Sip.U k0), .int .u64 (Sip.U k1)], .int .i64 (g : Int)] w fun e w' => ∃ p : Pl, e = .returned (.pointer (some ⟨p.b, 0, none⟩)) ∧ At w' p k0 k1 (empty g) ∧ (∀ j, p.own j → w.heap.size ≤ j) ∧ Below w.heap.size w w' := by
  obtain ⟨w1, hw1⟩ : ∃ w1, w1 = w.alloc (.cells #[.int .u64 (Sip.U k0), .int .u64 (Sip.U k1)] 24) := ⟨_, rfl⟩
  have L0 : Hid (Below w.heap.size w w1) := by rw [hw1]; exact (Below.refl _ w).alloc (Nat.le_refl _) _
  have SK : Hid (∀ W, Below w1.heap.size w1 W → W.cell? ⟨w.heap.size, 0, none⟩ = some (.int .u64 (Sip.U k0)) ∧ W.cell? ⟨w.heap.size, 1, none⟩ = some (.int .u64 (Sip.U k1))) := by
    show ∀ W, _
    intro W hW
    exact ⟨low_cell hW (Nat.le_refl _) (by rw [hw1]; simp), low_cell hW (Nat.le_refl _) (by rw [hw1]; simp)⟩
  obtain ⟨i0, hi, hz0, hz1, hz2⟩ := info_parts infoS
  have hmk : ∀ W : World, (Instr.makeSlice 104 (.int .i64 (8 * (g : Int))) (.int .i64 (8 * (g : Int)))).run Tryd.prog W = .ok (.slice (some ⟨W.heap.size, 0, none⟩) (8 * g) (8 * g)) (W.alloc (.cells (madeCells zeroS (8 * g * 2)) 109)) := fun W => by
    have := run_make (P := Tryd.prog) W 104 109 i0 _ Tryd.underlying104 hi hz0 .i64 .i64 (8 * g) (8 * g) (by omega) (Int.le_refl _) (by rw [hz2]; omega) (by omega)
    rw [show (8 * (g : Int)).toNat = 8 * g by omega, hz1] at this
    exact this
  have HW1 := Lib.hid hw1
  have hwr : IntKind.i64.wrap (8 * (g : Int)) = 8 * (g : Int) := IntWalk.i64_in _ (by omega)
  clear hi hz0 hz1 hz2 hw1
  obtain ⟨C, hC⟩ : ∃ C, C = madeCells zeroS (8 * g * 2) := ⟨_, rfl⟩
  rw [← hC] at hmk
  have HC := Lib.hid hC
  clear hC
  go_enter Tryd.func63, Tryd.ntmps63
  go_upto_region 1 with fail
  rw [← HW1.out]
  go_region_held3 (fun W => W.cell? ⟨w.heap.size, 0, none⟩ = some (.int .u64 (Sip.U k0)) ∧ W.cell? ⟨w.heap.size, 1, none⟩ = some (.int .u64 (Sip.U k1)))
    ((refine SK.out _ ?_; repeat (first | exact Below.refl _ _ | exact HB3.out | refine Below.drew ?_ | refine Below.alloc ?_ (by first | (have := HB3.out.size; simp; omega) | (simp; omega) | simp) _)))
    ((go_at_call 96; refine (repeat_any _ 9259542123273814144 _ g h1 hg _ (by simp)).mono ?_; rintro e w3 ⟨bw, rfl, hw3, hlo, hb3⟩; have HB3 : Hid (Below w1.heap.size w1 w3) := (by refine Below.trans ?_ (hb3.mono (by simp; try omega)); repeat (first | exact Below.refl _ _ | refine Below.drew ?_ | refine Below.alloc ?_ (by first | (simp; omega) | simp) _))))
  all_goals (
    have hz3 := HB3.out.size
    have hz0 := L0.out.size
    have hbw : bw < w3.heap.size := (Array.getElem?_eq_some_iff.1 hw3).1
    have HW3 := Lib.hid hw3
    have HLO := Lib.hid hlo
    have H3 := Lib.hid hb3
    clear hw3 hlo hb3 hmk
    go_wp2_with fail)
  · refine bodyPost_ret (v := .pointer (some ⟨w3.heap.size + 1, 0, none⟩)) ?_ rfl ⟨⟨w3.heap.size + 1, bw, w3.heap.size, g, 8 * g⟩, rfl, ?_, ?_, ?_⟩
    · simp [results, Tryd.results63, go_sem]
    · refine at_empty ?_ ?_ ?_ (by omega) (by omega) (by omega)
      · have := heap_alloc_new (w3.alloc (.cells C 109)) (.cells #[.int .u64 (Sip.U k0), .int .u64 (Sip.U k1), .slice (some ⟨bw, 0, none⟩) g g, .slice (some ⟨w3.heap.size, 0, none⟩) (8 * g) (8 * g), .int .i64 0, .int .i64 0] 106)
        rwa [World.size_alloc] at this
      · rw [Below.heap_alloc _ _ _ (by simp; omega), Below.heap_alloc _ _ _ hbw]; exact HW3.out
      · rw [Below.heap_alloc _ _ _ (by simp), ← HC.out]; exact heap_alloc_new w3 _
    · have h2 := HLO.out
      simp at h2
      intro j hj
      exact own_ge (by omega) (by omega) (by omega) hj
    · exact L0.out.trans (((HB3.out.alloc hz3 _).alloc (by simp; omega) _).mono hz0)
  · refine bodyPost_ret (v := .pointer (some ⟨w3.heap.size, 0, none⟩)) ?_ rfl ⟨⟨w3.heap.size, bw, w1.heap.size + 1, g, 8 * g⟩, rfl, ?_, ?_, ?_⟩
    · simp [results, Tryd.results63, go_sem]
    all_goals (have h2 := HLO.out; simp at h2)
    · have h4 := H3.out.size
      simp at h4
      refine at_empty (heap_alloc_new w3 _) ?_ ?_ (by omega) (by omega) (by omega)
      · rw [Below.heap_alloc _ _ _ hbw]; exact HW3.out
      · rw [Below.heap_alloc _ _ _ (by omega), ← HC.out]
        refine (H3.out.block _ (by simp)).trans ?_
        have := heap_alloc_new (w1.alloc (.cells #[.int .u64 9259542123273814144] 22)) (.cells C 109)
        rwa [World.size_alloc] at this
    · intro j hj
      exact own_ge (by omega) (by omega) (by omega) hj
    · exact L0.out.trans ((HB3.out.alloc hz3 _).mono hz0)
  · refine bodyPost_ret (v := .pointer (some ⟨w3.heap.size, 0, none⟩)) ?_ rfl ⟨⟨w3.heap.size, bw, w1.heap.size, g, 8 * g⟩, rfl, ?_, ?_, ?_⟩
    · simp [results, Tryd.results63, go_sem]
    all_goals (have h2 := HLO.out; simp at h2)
    · have h4 := H3.out.size
      simp at h4
      refine at_empty (heap_alloc_new w3 _) ?_ ?_ (by omega) (by omega) (by omega)
      · rw [Below.heap_alloc _ _ _ hbw]; exact HW3.out
      · rw [Below.heap_alloc _ _ _ (by omega), ← HC.out]
        refine (H3.out.block _ (by simp; omega)).trans ?_
        exact (Below.heap_alloc (w1.alloc (.cells C 109)) _ w1.heap.size (by simp)).trans (heap_alloc_new w1 _)
    · intro j hj
      exact own_ge (by omega) (by omega) (by omega) hj
    · exact L0.out.trans ((HB3.out.alloc hz3 _).mono hz0)
theorem new_any (k0 k1 : BitVec 64) (h : Int) (w : World) :
    Calls Tryd.prog 13 #[.agg #[.int .u64 (Sip.U k0), .int .u64 (Sip.U k1)], .int .i64 h] w fun e w' => Below w.heap.size w w' ∧ ((needF h = 0 ∧ e = .returned (.pointer none)) ∨ (goodB (needF h) = true ∧ ∃ (p : Pl) (g : Nat), needF h = (g : Int) ∧ e = .returned (.pointer (some ⟨p.b, 0, none⟩)) ∧ At w' p k0 k1 (empty g) ∧ ∀ j, p.own j → w.heap.size ≤ j)) := by
  have HN := Lib.hid (need_any h w)
  have L0 : Hid (Below w.heap.size w (w.alloc (.cells #[.int .u64 (Sip.U k0), .int .u64 (Sip.U k1)] 24))) := (Below.refl _ w).alloc (Nat.le_refl _) _
  have HN2 := Lib.hid (need_any h (w.alloc (.cells #[.int .u64 (Sip.U k0), .int .u64 (Sip.U k1)] 24)))
  have hb := needF_bounds h
  by_cases h0 : needF h = 0
  · have H0 := Lib.hid h0
    rw [h0] at HN2
    clear h0 hb
    go_enter Tryd.func13, Tryd.ntmps13
    go_wp2_with fail
    refine HN2.out.mono ?_
    rintro e w' ⟨rfl, rfl⟩
    go_wp2
    go_ret
    exact ⟨L0.out, .inl ⟨H0.out, rfl⟩⟩
  · have hgd : goodB (needF h) = true := by
      rcases needF_cases h with ⟨h1, _⟩ | ⟨k, h1, _⟩
      · exact absurd h1 h0
      · rw [h1]; exact goodB_pow k
    have HGD := Lib.hid hgd
    obtain ⟨g, hg⟩ := Int.eq_ofNat_of_zero_le hb.1
    have HG : Hid (needF h = (g : Int)) := hg
    rw [HG.out] at HN2
    have h1 : 1 ≤ g := by omega
    have h2 : g ≤ 1024 := by omega
    have hd : ((g : Int) == 0) = false := by simp; omega
    clear h0 hb hgd hg
    go_enter Tryd.func13, Tryd.ntmps13
    go_wp2_with fail
    refine HN2.out.mono ?_
    rintro e w' ⟨rfl, rfl⟩
    go_wp2_with fail
    refine (made_new k0 k1 g h1 h2 _).mono ?_
    rintro e w' ⟨p, rfl, hA, hp, hb⟩
    have HA := Lib.hid hA
    have HP := Lib.hid hp
    have HB := Lib.hid hb
    clear hA hp hb
    go_wp2
    go_ret
    exact ⟨L0.out.trans (HB.out.mono L0.out.size), .inr ⟨HGD.out, p, g, HG.out, rfl, HA.out, fun j hj => Nat.le_trans L0.out.size (HP.out j hj)⟩⟩
end Go.Proofs.YtcooapflofiolaaDoor.MS

/- Clone, Controls, Keys and Copy, over maps of texts. -/
namespace Go.Proofs.YtcooapflofiolaaDoor.MS
open Go Go.RowKit Go.Shelf
set_option linter.unusedVariables false
set_option linter.unusedSimpArgs false
set_option maxRecDepth 100000
set_option maxHeartbeats 4000000
theorem cloneW_any (g : Nat) (n c : Nat) (xs : List Value) (hl : xs.length = n * 1) (w : World) (hx : ∀ j u, xs[j]? = some u → w.cell? (Addr.add ⟨g, 0, none⟩ j) = some u) (ho : ∀ u ∈ xs, u.oneCell' = true) (hn : n ≤ 1000000) :
    Calls Tryd.prog 79 #[.slice (some ⟨g, 0, none⟩) n c] w fun e w' => ∃ v, e = .returned v ∧ w'.ownsRow w.heap.size 22 1 v n xs ∧ (∃ a k, v = .slice (some ⟨a, 0, none⟩) n k) ∧ Below w.heap.size w w' := by
  have q : ∀ (w : World) (a : Option Addr) (n c n' c' : Nat), (binOp .eql 60 (.slice a n c) (.slice none n' c')).run Tryd.prog w = .ok (.bool a.isNone) w := fun w a n c n' c' => Lib.run_eql_slice_nil w _ _ a n c n' c' Tryd.underlying60
  obtain ⟨i0, hi, hz0, hz1, hz2⟩ := info_parts infoW
  have L1 : Hid (Below w.heap.size w (w.alloc (.cells #[] 22))) := (Below.refl _ w).alloc (Nat.le_refl _) _
  have hown : (w.alloc (.cells #[] 22)).ownsRow w.heap.size 22 1 (.slice (some ⟨w.heap.size, 0, none⟩) 0 0) 0 [] :=
    ⟨rfl, .inr ⟨w.heap.size, 0, #[], rfl, Nat.le_refl _, heap_alloc_new w _, Nat.le_refl _, Nat.zero_le _, rfl, rfl⟩⟩
  obtain ⟨v', w', hr, h2, h3, h4, h5⟩ := run_append_own_at (P := Tryd.prog) (w.alloc (.cells #[] 22)) w.heap.size 60 60 22 i0 _ 1 8 Tryd.underlying60 hi hz0 hz1 hz2 rfl (by decide) _ 0 [] hown ⟨g, 0, none⟩ n c xs hl (fun j u hj => low_cell L1.out (Nat.le_refl _) (hx j u hj)) ho (by simp only [maxLen]; omega) (by omega) L1.out.size
  rw [Nat.zero_add, List.nil_append] at h2
  have hv : ∃ a k, v' = .slice (some ⟨a, 0, none⟩) n k := by
    rcases h2.2 with ⟨rfl, h0⟩ | ⟨a, k, cur, rfl, _⟩
    · exact absurd (h4.1 rfl).1 (by simp)
    · exact ⟨a, k, rfl⟩
  have H1 := Lib.hid h2
  have H2 : Hid (Below w.heap.size w w') := L1.out.grown h3 L1.out.size (fun k ek => by cases ek; exact Nat.le_refl _)
  have H3 := Lib.hid hr
  have H4 := Lib.hid hv
  clear h2 hr h3 h4 h5 hown hv hx ho hl hi hz0 hz1 hz2
  go_enter Tryd.func79, Tryd.ntmps79
  go_wp2_with (at_builtin; refine wpList_runT 60 rfl _ _ rfl _ _ rfl rfl _ _ H3.out ?_)
  go_ret
  exact ⟨_, rfl, H1.out, H4.out, H2.out⟩
theorem cloneS_any (g : Nat) (n c : Nat) (xs : List Value) (hl : xs.length = n * 2) (w : World) (hx : ∀ j u, xs[j]? = some u → w.cell? (Addr.add ⟨g, 0, none⟩ j) = some u) (ho : ∀ u ∈ xs, u.oneCell' = true) (hn : n ≤ 1000000) :
    Calls Tryd.prog 87 #[.slice (some ⟨g, 0, none⟩) n c] w fun e w' => ∃ v, e = .returned v ∧ w'.ownsRow w.heap.size 109 2 v n xs ∧ (∃ a k, v = .slice (some ⟨a, 0, none⟩) n k) ∧ Below w.heap.size w w' := by
  have q : ∀ (w : World) (a : Option Addr) (n c n' c' : Nat), (binOp .eql 104 (.slice a n c) (.slice none n' c')).run Tryd.prog w = .ok (.bool a.isNone) w := fun w a n c n' c' => Lib.run_eql_slice_nil w _ _ a n c n' c' Tryd.underlying104
  obtain ⟨i0, hi, hz0, hz1, hz2⟩ := info_parts infoS
  have L1 : Hid (Below w.heap.size w (w.alloc (.cells #[] 109))) := (Below.refl _ w).alloc (Nat.le_refl _) _
  have hown : (w.alloc (.cells #[] 109)).ownsRow w.heap.size 109 2 (.slice (some ⟨w.heap.size, 0, none⟩) 0 0) 0 [] :=
    ⟨rfl, .inr ⟨w.heap.size, 0, #[], rfl, Nat.le_refl _, heap_alloc_new w _, Nat.le_refl _, Nat.zero_le _, rfl, rfl⟩⟩
  obtain ⟨v', w', hr, h2, h3, h4, h5⟩ := run_append_own_at (P := Tryd.prog) (w.alloc (.cells #[] 109)) w.heap.size 104 104 109 i0 _ 2 _ Tryd.underlying104 hi hz0 hz1 hz2 rfl (by decide) _ 0 [] hown ⟨g, 0, none⟩ n c xs hl (fun j u hj => low_cell L1.out (Nat.le_refl _) (hx j u hj)) ho (by simp only [maxLen]; omega) (by omega) L1.out.size
  rw [Nat.zero_add, List.nil_append] at h2
  have hv : ∃ a k, v' = .slice (some ⟨a, 0, none⟩) n k := by
    rcases h2.2 with ⟨rfl, h0⟩ | ⟨a, k, cur, rfl, _⟩
    · exact absurd (h4.1 rfl).1 (by simp)
    · exact ⟨a, k, rfl⟩
  have H1 := Lib.hid h2
  have H2 : Hid (Below w.heap.size w w') := L1.out.grown h3 L1.out.size (fun k ek => by cases ek; exact Nat.le_refl _)
  have H3 := Lib.hid hr
  have H4 := Lib.hid hv
  clear h2 hr h3 h4 h5 hown hv hx ho hl hi hz0 hz1 hz2
  go_enter Tryd.func87, Tryd.ntmps87
  go_wp2_with (at_builtin; refine wpList_runT 104 rfl _ _ rfl _ _ rfl rfl _ _ H3.out ?_)
  go_ret
  exact ⟨_, rfl, H1.out, H4.out, H2.out⟩
theorem words_cells {w : World} {p : Pl} {k0 k1 : BitVec 64} {m : Mp VT} (h : At w p k0 k1 m) : ∀ j u, (wordsV m)[j]? = some u → w.cell? (Addr.add ⟨p.bw, 0, none⟩ j) = some u := fun j u hj => by
  obtain ⟨h1, rfl⟩ := wordsV_at m hj
  rw [Addr.add_lit, Nat.zero_add]; exact h.wc h1
theorem slots_cells {w : World} {p : Pl} {k0 k1 : BitVec 64} {m : Mp VT} (h : At w p k0 k1 m) (hsl : m.ss.length = 8 * m.ws.length) : ∀ j u, (flatS val m.ss)[j]? = some u → w.cell? (Addr.add ⟨p.bs, 0, none⟩ j) = some u := fun j u hj => by
  obtain ⟨h1, h2⟩ := flatS_get val m.ss hj
  rw [Addr.add_lit, Nat.zero_add]
  rcases h2 with ⟨h3, rfl⟩ | ⟨h3, rfl⟩
  · have := h.sk (i := j / 2) (by omega)
    rwa [show j / 2 * 2 = j by omega] at this
  · have := h.sv (i := j / 2) (by omega)
    rwa [show j / 2 * 2 + 1 = j by omega] at this
theorem words_one (m : Mp VT) : ∀ u ∈ wordsV m, u.oneCell' = true := fun u hu => by
  obtain ⟨x, _, rfl⟩ := List.mem_map.1 hu; rfl
theorem slots_one (l : List (ByteArray × VT)) : ∀ u ∈ flatS val l, u.oneCell' = true := fun u hu => by
  obtain ⟨x, _, h⟩ := List.mem_flatMap.1 hu
  simp at h
  rcases h with rfl | rfl <;> rfl
theorem controls_any (p : Pl) (k0 k1 : BitVec 64) (m : Mp VT) (w : World) (h : At w p k0 k1 m) (I : MInv (hashN k0 k1) m) :
    Calls Tryd.prog 31 #[.pointer (some ⟨p.b, 0, none⟩)] w fun e w' => ∃ v, e = .returned v ∧ w'.ownsRow w.heap.size 22 1 v m.ws.length (wordsV m) ∧ Below w.heap.size w w' := by
  have HM := Lib.hid (made_any p k0 k1 m w h I.len.1)
  have HC := Lib.hid (cloneW_any p.bw m.ws.length p.cw (wordsV m) (by rw [wordsV_len]; omega) w (words_cells h) (words_one m) (by have := I.len; omega))
  have c2 := h.c2
  clear h I
  go_enter Tryd.func31, Tryd.ntmps31
  go_wp2_with fail
  refine HM.out.mono ?_
  rintro e w' ⟨rfl, rfl⟩
  go_wp2_with fail
  refine HC.out.mono ?_
  rintro e w' ⟨v, rfl, h1, _, h2⟩
  have H1 := Lib.hid h1
  have H2 := Lib.hid h2
  clear h1 h2
  go_wp2
  go_ret
  exact ⟨_, rfl, H1.out, H2.out⟩
end Go.Proofs.YtcooapflofiolaaDoor.MS

/- Keys, over maps of texts. -/
namespace Go.Proofs.YtcooapflofiolaaDoor
open Go Go.RowKit
theorem infoT : (Tryd.prog.info? 9).map (fun i => (i.zero, i.size, i.bytes)) = some (some (.string ByteArray.empty), 1, 16) := by kernel_rfl
def textsV (l : List ByteArray) : List Value := l.map Value.string
theorem textsV_len (l : List ByteArray) : (textsV l).length = l.length := List.length_map _
end Go.Proofs.YtcooapflofiolaaDoor
namespace Go.Proofs.YtcooapflofiolaaDoor.MS
open Go Go.RowKit Go.Shelf
set_option linter.unusedVariables false
set_option linter.unusedSimpArgs false
set_option maxRecDepth 100000
set_option maxHeartbeats 4000000
def keysL (m : Mp VT) : List ByteArray := (fullL m).map (·.1)
theorem keys_any (p : Pl) (k0 k1 : BitVec 64) (m : Mp VT) (w : World) (h : At w p k0 k1 m) (I : MInv (hashN k0 k1) m) :
    Calls Tryd.prog 30 #[.pointer (some ⟨p.b, 0, none⟩)] w fun e w' => ∃ v, e = .returned v ∧ w'.ownsRow w.heap.size 9 1 v m.n (textsV (keysL m)) ∧ Below w.heap.size w w' := by
  have HM := Lib.hid (made_any p k0 k1 m w h I.len.1)
  have HF := Lib.hid (fulls_any p k0 k1 m w h I)
  have hmx := I.mx
  have HFL := Lib.hid (full_len I)
  obtain ⟨s, hs⟩ : ∃ s, s = w.heap.size := ⟨_, rfl⟩
  have HS := Lib.hid hs
  obtain ⟨i0, hi, hz0, hz1, hz2⟩ := info_parts infoT
  clear h I hs
  go_enter Tryd.func30, Tryd.ntmps30
  go_wp2_with fail
  refine HM.out.mono ?_
  rintro e w' ⟨rfl, rfl⟩
  go_wp2_with fail
  refine HF.out.mono ?_
  rintro e w1 ⟨v, rfl, h1, h2⟩
  obtain ⟨va, vc, rfl, hvc⟩ := own_val h1
  have H1 := Lib.hid h1
  have H2 : Hid (Below s w w1) := by rw [← HS.out] at h2; exact h2
  clear h1 h2
  go_wp2
  have HKL : Hid ((keysL m).length = m.n) := by show _ = _; unfold keysL; rw [List.length_map, HFL.out]
  go_loopw [3, 11] (fun v i wr => ∃ k : Nat, k ≤ m.n ∧ i = .int .i64 k ∧ wr.ownsRow w1.heap.size 9 1 v k (textsV ((keysL m).take k)) ∧ Below w1.heap.size w1 wr) (fun _ i _ => m.n - (intOf i).toNat)
  case atStart => exact ⟨0, Nat.zero_le _, rfl, World.ownsRow_nil _ _ _ _, Below.refl _ _⟩
  case round =>
    obtain ⟨k, hk, rfl, hrow, hB⟩ := hrel
    have HR := Lib.hid hrow
    have HB := Lib.hid hB
    clear hrow hB
    by_cases hlt : k < m.n
    · have hlt' : decide ((k : Int) < (m.n : Int)) = true := decide_eq_true (by omega)
      obtain ⟨g, cap, hv, _, _, hg, hcells⟩ := own_read H1.out (by omega)
      injection hv with hva _ hvc'
      subst hva
      have hat := flatS_at val (fullL m) k (by rw [HFL.out]; exact hlt)
      have s0 := low_cell HB.out (Nat.le_refl _) (hcells _ _ hat.1)
      have s1 := low_cell HB.out (Nat.le_refl _) (hcells _ _ hat.2)
      have hgr : g < wr.heap.size := cell_lt s0
      obtain ⟨x, hx⟩ : ∃ x, x = (fullL m).getD k default := ⟨_, rfl⟩
      rw [← hx] at s0 s1
      have HX := Lib.hid hx
      have hlt2 : (k : Int) < (m.n : Int) := by omega
      clear hcells hat hx hvc'
      have LX : Hid (Below wr.heap.size wr ((wr.alloc (.cells #[.string x.1, val x.2] 109)).alloc (.cells #[.string x.1] 9))) := ((Below.refl _ wr).alloc (Nat.le_refl _) _).alloc (by simp) _
      have hnew : ∀ j u, [Value.string x.1][j]? = some u → ((wr.alloc (.cells #[.string x.1, val x.2] 109)).alloc (.cells #[.string x.1] 9)).cell? (Addr.add ⟨wr.heap.size + 1, 0, none⟩ j) = some u := fun j u h => by
        match j with
        | 0 => simp at h; subst h; rw [Addr.add_lit]; simp
        | j + 1 => simp at h
      obtain ⟨v', w', hr, h2, h3, _, h5⟩ := run_append_own_at (P := Tryd.prog) ((wr.alloc (.cells #[.string x.1, val x.2] 109)).alloc (.cells #[.string x.1] 9)) w1.heap.size 30 30 9 i0 _ 1 16 Tryd.underlying30 hi hz0 hz1 hz2 rfl (by decide) u3 k _ (own_below HR.out (Nat.le_refl _) LX.out) ⟨wr.heap.size + 1, 0, none⟩ 1 1 [.string x.1] rfl hnew (by simp [Value.oneCell']) (by simp only [maxLen]; omega) (by omega) (by have := HB.out.size; have := LX.out.size; omega)
      have HA := Lib.hid hr
      have HO := Lib.hid h2
      have HB2 : Hid (Below w1.heap.size w1 w') := (HB.out.trans (LX.out.mono HB.out.size)).grown h3 (by have := HB.out.size; have := LX.out.size; omega) (fun r er => (HR.out.lt r er).1)
      clear hr h2 h3 h5 hnew
      go_wp2_with (at_builtin; refine wpList_runT 30 rfl _ _ rfl _ _ rfl rfl _ _ HA.out ?_)
      go_roundw
      case rel =>
        refine ⟨k + 1, by omega, by go_num, ?_, HB2.out⟩
        have hk1 : (keysL m).take (k + 1) = (keysL m).take k ++ [x.1] := by
          rw [List.take_succ_eq_append_getElem (by rw [HKL.out]; exact hlt)]
          congr 2
          unfold keysL
          rw [HX.out, List.getElem_map, List.getD_eq_getElem?_getD, List.getElem?_eq_getElem (by rw [HFL.out]; exact hlt)]; rfl
        have := HO.out
        rw [hk1]
        simpa [textsV] using this
      case measure => simp [intOf]; omega
    · have hlt' : decide ((k : Int) < (m.n : Int)) = false := decide_eq_false (by omega)
      obtain rfl : k = m.n := by omega
      go_wp2
      refine bodyPost_ret (v := u3) ?_ rfl ⟨_, rfl, ?_, ?_⟩
      · simp [results, Tryd.results30, go_sem]
      · have := HR.out
        rw [← HKL.out, List.take_length, HKL.out] at this
        exact own_weak this (by rw [← HS.out]; exact Nat.le_trans (Nat.le_of_eq HS.out) H2.out.size)
      · rw [← HS.out]; exact H2.out.trans (HB.out.mono (Nat.le_trans (Nat.le_of_eq HS.out) H2.out.size))
end Go.Proofs.YtcooapflofiolaaDoor.MS

/- Copy, over maps of texts. -/
namespace Go.Proofs.YtcooapflofiolaaDoor.MS
open Go Go.RowKit Go.Shelf
set_option linter.unusedVariables false
set_option linter.unusedSimpArgs false
set_option maxRecDepth 100000
set_option maxHeartbeats 4000000
/-- A map out of its block and two rows of one's own. -/
theorem at_rows {w : World} {b ba bb : Nat} {k0 k1 : BitVec 64} {m : Mp VT} {a1 c1 a2 c2 : Nat} (hsl : m.ss.length = 8 * m.ws.length)
    (hb : w.heap[b]? = some (.cells #[.int .u64 (Sip.U k0), .int .u64 (Sip.U k1), .slice (some ⟨a1, 0, none⟩) m.ws.length c1, .slice (some ⟨a2, 0, none⟩) (8 * m.ws.length) c2, .int .i64 m.n, .int .i64 m.tb] 106 (0, 0)))
    (h1 : w.ownsRow ba 22 1 (.slice (some ⟨a1, 0, none⟩) m.ws.length c1) m.ws.length (wordsV m)) (h2 : w.ownsRow bb 109 2 (.slice (some ⟨a2, 0, none⟩) (8 * m.ws.length) c2) (8 * m.ws.length) (flatS val m.ss)) (n1 : b ≠ a1) (n2 : b ≠ a2) (n3 : a1 ≠ a2) :
    At w ⟨b, a1, a2, c1, c2⟩ k0 k1 m := by
  rcases h1.2 with ⟨h, _⟩ | ⟨g, cap, cur, e, _, hg, hc, _, _, htk⟩
  · cases h
  injection e with e1 e2 e3
  injection e1 with e1; injection e1 with e1; subst e1; subst e3
  rcases h2.2 with ⟨h, _⟩ | ⟨g2, cap2, cur2, e, _, hg2, hc2, _, _, htk2⟩
  · cases h
  injection e with f1 f2 f3
  injection f1 with f1; injection f1 with f1; subst f1; subst f3
  refine ⟨hb, ⟨cur, hg, fun j hj => ?_⟩, ⟨cur2, hg2, fun i hi => ?_⟩, hc, hc2, n1, n2, n3⟩
  · have h3 : (wordsV m)[j]? = some (.int .u64 (m.w j : Nat)) := by
      unfold wordsV Mp.w
      rw [List.getElem?_map, List.getElem?_eq_getElem hj, List.getD_eq_getElem?_getD, List.getElem?_eq_getElem hj]; rfl
    rw [← htk, List.getElem?_take] at h3
    split at h3
    · simpa using h3
    · cases h3
  · have h3 := flatS_at val m.ss i (by omega)
    have h4 : ∀ j u, (flatS val m.ss)[j]? = some u → cur2[j]? = some u := fun j u hj => by
      rw [← htk2, List.getElem?_take] at hj
      split at hj
      · simpa using hj
      · cases hj
    exact ⟨h4 _ _ h3.1, h4 _ _ h3.2⟩
theorem own_set {w : World} {base e size n : Nat} {v : Value} {xs : List Value} {b : Nat} {x y : Value} (h : w.ownsRow base e size v n xs) (hb : b < base) : ((w.setCell ⟨b, 2, none⟩ x).setCell ⟨b, 3, none⟩ y).ownsRow base e size v n xs :=
  ownsRow_setCell_below (ownsRow_setCell_below h (a := ⟨b, 2, none⟩) hb x) (a := ⟨b, 3, none⟩) hb y
theorem copy_any (p : Pl) (k0 k1 : BitVec 64) (m : Mp VT) (w : World) (h : At w p k0 k1 m) (I : MInv (hashN k0 k1) m) :
    Calls Tryd.prog 44 #[.pointer (some ⟨p.b, 0, none⟩)] w fun e w' => ∃ q : Pl, e = .returned (.pointer (some ⟨q.b, 0, none⟩)) ∧ At w' q k0 k1 m ∧ (∀ j, q.own j → w.heap.size ≤ j) ∧ Below w.heap.size w w' := by
  have HM := Lib.hid (made_any p k0 k1 m w h I.len.1)
  have HA := Lib.hid h
  have HI := Lib.hid I
  have c0 := h.c0
  have c1 := h.c1
  have c2 := h.c2
  have c3 := h.c3
  have c4 := h.c4
  have c5 := h.c5
  have hlt := h.lt (.inl rfl)
  clear h I
  go_enter Tryd.func44, Tryd.ntmps44
  go_wp2_with fail
  refine HM.out.mono ?_
  rintro e w' ⟨rfl, rfl⟩
  go_upto_region 4 with fail
  obtain ⟨w2, hw2⟩ : ∃ w2, w2 = w.alloc (.cells #[.int .u64 (Sip.U k0), .int .u64 (Sip.U k1), .slice (some ⟨p.bw, 0, none⟩) m.ws.length p.cw, .slice (some ⟨p.bs, 0, none⟩) (8 * m.ws.length) p.cs, .int .i64 m.n, .int .i64 m.tb] 106) := ⟨_, rfl⟩
  rw [← hw2]
  have hz2 : w2.heap.size = w.heap.size + 1 := by rw [hw2]; simp
  have L0 : Hid (Below w.heap.size w w2) := by rw [hw2]; exact (Below.refl _ w).alloc (Nat.le_refl _) _
  have hbx : Hid (w2.heap[w.heap.size]? = some (.cells #[.int .u64 (Sip.U k0), .int .u64 (Sip.U k1), .slice (some ⟨p.bw, 0, none⟩) m.ws.length p.cw, .slice (some ⟨p.bs, 0, none⟩) (8 * m.ws.length) p.cs, .int .i64 m.n, .int .i64 m.tb] 106 (0, 0))) := by rw [hw2]; exact heap_alloc_new w _
  have A2 : Hid (At w2 p k0 k1 m) := HA.out.below (Nat.le_refl _) L0.out
  have HZ := Lib.hid hz2
  clear hw2 hz2 c0 c1 c2 c3 c4 c5
  have SK : Hid (∀ W, Below w.heap.size w W → W.cell? ⟨p.b, 2, none⟩ = some (.slice (some ⟨p.bw, 0, none⟩) m.ws.length p.cw) ∧ W.cell? ⟨p.b, 3, none⟩ = some (.slice (some ⟨p.bs, 0, none⟩) (8 * m.ws.length) p.cs)) := by
    show ∀ W, _
    intro W hW
    exact ⟨low_cell hW (Nat.le_refl _) HA.out.c2, low_cell hW (Nat.le_refl _) HA.out.c3⟩
  have SB : Hid (∀ W, Below w2.heap.size w2 W → W.cell? ⟨w.heap.size, 2, none⟩ = some (.slice (some ⟨p.bw, 0, none⟩) m.ws.length p.cw) ∧ W.cell? ⟨w.heap.size, 3, none⟩ = some (.slice (some ⟨p.bs, 0, none⟩) (8 * m.ws.length) p.cs) ∧ W.frozen? ⟨w.heap.size, 2, none⟩ = false ∧ W.frozen? ⟨w.heap.size, 3, none⟩ = false) := by
    show ∀ W, _
    intro W hW
    have := (hW.block w.heap.size (by have := HZ.out; omega)).trans hbx.out
    exact ⟨by simp [World.cell?, this], by simp [World.cell?, this], by simp [World.frozen?, this], by simp [World.frozen?, this]⟩
  have hC1 : Hid (∀ W, Below w2.heap.size w2 W → Calls Tryd.prog 79 #[.slice (some ⟨p.bw, 0, none⟩) m.ws.length p.cw] W fun e w' => ∃ v, e = .returned v ∧ w'.ownsRow W.heap.size 22 1 v m.ws.length (wordsV m) ∧ (∃ a k, v = .slice (some ⟨a, 0, none⟩) m.ws.length k) ∧ Below W.heap.size W w') := fun W hW =>
    cloneW_any p.bw m.ws.length p.cw (wordsV m) (by rw [wordsV_len]; omega) W (words_cells (A2.out.below (Nat.le_refl _) hW)) (words_one m) (by have := HI.out.len; omega)
  have hC2 : Hid (∀ W, Below w2.heap.size w2 W → Calls Tryd.prog 87 #[.slice (some ⟨p.bs, 0, none⟩) (8 * m.ws.length) p.cs] W fun e w' => ∃ v, e = .returned v ∧ w'.ownsRow W.heap.size 109 2 v (8 * m.ws.length) (flatS val m.ss) ∧ (∃ a k, v = .slice (some ⟨a, 0, none⟩) (8 * m.ws.length) k) ∧ Below W.heap.size W w') := fun W hW =>
    cloneS_any p.bs (8 * m.ws.length) p.cs (flatS val m.ss) (by rw [flatS_len, HI.out.sl]) W (slots_cells (A2.out.below (Nat.le_refl _) hW) HI.out.sl) (slots_one _) (by have := HI.out.len; omega)
  have Lx : Hid (Below w2.heap.size w2 w2.drew) := (Below.refl _ _).drew
  have HKx : Hid (Below w.heap.size w w2.drew) := L0.out.drew
  go_cut [] (fun wx => ∃ w5 b1 a1 d1 b2 a2 d2, w5.ownsRow b1 22 1 (.slice (some ⟨a1, 0, none⟩) m.ws.length d1) m.ws.length (wordsV m) ∧ w5.ownsRow b2 109 2 (.slice (some ⟨a2, 0, none⟩) (8 * m.ws.length) d2) (8 * m.ws.length) (flatS val m.ss) ∧ w2.heap.size ≤ b1 ∧ w2.heap.size ≤ b2 ∧ a1 ≠ a2 ∧ Below w2.heap.size w2 w5 ∧ wx = (w5.setCell ⟨w.heap.size, 2, none⟩ (.slice (some ⟨a1, 0, none⟩) m.ws.length d1)).setCell ⟨w.heap.size, 3, none⟩ (.slice (some ⟨a2, 0, none⟩) (8 * m.ws.length) d2))
  case first =>
    go_region_held3 (fun W => W.cell? ⟨p.b, 2, none⟩ = some (.slice (some ⟨p.bw, 0, none⟩) m.ws.length p.cw) ∧ W.cell? ⟨p.b, 3, none⟩ = some (.slice (some ⟨p.bs, 0, none⟩) (8 * m.ws.length) p.cs))
      ((refine SK.out _ ?_; repeat (first | exact HK4.out | exact HK3.out | exact HKx.out | refine Below.setCell (p := ⟨w.heap.size, 2, none⟩) ?_ (Nat.le_refl _) _ | refine Below.setCell (p := ⟨w.heap.size, 3, none⟩) ?_ (Nat.le_refl _) _)))
      (first
        | (go_at_call 79; refine (hC1.out _ Lx.out).mono ?_; rintro e w3 ⟨v3, rfl, h3, ⟨a3, d3, rfl⟩, hb3⟩; have HB3 : Hid (Below w2.heap.size w2 w3) := Lx.out.trans hb3; have HK3 : Hid (Below w.heap.size w w3) := L0.out.trans (HB3.out.mono L0.out.size))
        | (go_at_call 87; refine (hC2.out _ HB3.out).mono ?_; rintro e w4 ⟨v4, rfl, h4, ⟨a4, d4, rfl⟩, hb4⟩; have HB4 : Hid (Below w2.heap.size w2 w4) := HB3.out.trans (hb4.mono HB3.out.size); have HK4 : Hid (Below w.heap.size w w4) := L0.out.trans (HB4.out.mono L0.out.size); obtain ⟨y2, y3, f2, f3⟩ := SB.out w4 HB4.out))
    all_goals (
      have hz3 := HB3.out.size
      have hz4 := hb4.size
      have q1 : a3 < w3.heap.size := (h3.lt a3 rfl).2
      have q2 : w3.heap.size ≤ a4 := (h4.lt a4 rfl).1
      have X1 := Lib.hid (own_below h3 (Nat.le_refl _) hb4)
      have X2 := Lib.hid h4
      clear h3 h4 hb3 hb4 y2 y3 f2 f3
      go_wp2_with fail
      go_meet
      exact ⟨w4, _, a3, d3, _, a4, d4, X1.out, X2.out, Lx.out.size, hz3, by omega, HB4.out, rfl⟩)
  case rest =>
    obtain ⟨w5, b1, a1, d1, b2, a2, d2, h1, h2, g1, g2, hne, hb, rfl⟩ := hcut
    have X1 := Lib.hid h1
    have X2 := Lib.hid h2
    have XB := Lib.hid hb
    have r1 := (h1.lt a1 rfl).1
    have r2 := (h2.lt a2 rfl).1
    clear h1 h2 hb
    go_wp2
    refine bodyPost_ret (v := .pointer (some ⟨w.heap.size, 0, none⟩)) ?_ rfl ⟨⟨w.heap.size, a1, a2, d1, d2⟩, rfl, ?_, ?_, ?_⟩
    · simp [results, Tryd.results44, go_sem]
    · have hz := HZ.out
      refine at_rows HI.out.sl ?_ (own_set X1.out (by omega)) (own_set X2.out (by omega)) (by omega) (by omega) hne
      have e1 := heap_setCell_same w5 w.heap.size 2 _ 106 (.slice (some ⟨a1, 0, none⟩) m.ws.length d1) ((XB.out.block w.heap.size (by omega)).trans hbx.out)
      exact heap_setCell_same _ w.heap.size 3 _ 106 (.slice (some ⟨a2, 0, none⟩) (8 * m.ws.length) d2) e1
    · have hz := HZ.out
      intro j hj
      exact own_ge (by omega) (by omega) (by omega) hj
    · exact ((L0.out.trans (XB.out.mono L0.out.size)).setCell (p := ⟨w.heap.size, 2, none⟩) (Nat.le_refl _) _).setCell (p := ⟨w.heap.size, 3, none⟩) (Nat.le_refl _) _
end Go.Proofs.YtcooapflofiolaaDoor.MS

/- rehash, over maps of texts. -/
namespace Go.Proofs.YtcooapflofiolaaDoor
open Go Go.RowKit
section
variable {V : Type} [Inhabited V]
/-- The empty map behind some of the keys. -/
def partM (H : ByteArray → Nat) (m : Mp V) (k : Nat) : Mp V := ((fullL m).take k).foldl (lay H) (empty (reG m))
theorem part_inv {H : ByteArray → Nat} {m : Mp V} (I : MInv H m) (hf : 7 * m.ws.length ≤ m.n + m.tb) (hn : m.n < 2000) (k : Nat) (hk : k ≤ m.n) : MInv H (partM H m k) := by
  obtain ⟨h1, h2, h3⟩ := reG_good I hf hn
  have hl : (empty (reG m) : Mp V).ws.length = reG m := List.length_replicate
  have hfl := full_len I
  have htl : ((fullL m).take k).length = k := by rw [List.length_take, hfl]; omega
  exact (lays_inv (H := H) (l := (fullL m).take k) (empty_inv h1) ((full_pair I).sublist (List.take_sublist _ _)) (fun s _ v => has_empty_not _ _ _) rfl (by rw [hl, htl]; show 0 + k ≤ _; omega) (by rw [htl]; show 0 + k ≤ _; omega)).1
theorem part_zero (H : ByteArray → Nat) (m : Mp V) : partM H m 0 = empty (reG m) := rfl
theorem part_succ {H : ByteArray → Nat} {m : Mp V} (I : MInv H m) {k : Nat} (hk : k < m.n) : partM H m (k + 1) = lay H (partM H m k) ((fullL m).getD k default) := by
  have hlt : k < (fullL m).length := by rw [full_len I]; exact hk
  unfold partM
  rw [List.take_succ_eq_append_getElem hlt, List.foldl_append, List.getD_eq_getElem?_getD, List.getElem?_eq_getElem hlt]; rfl
theorem part_all {H : ByteArray → Nat} {m : Mp V} (I : MInv H m) : partM H m m.n = rehash H m := by
  unfold partM rehash
  rw [← full_len I, List.take_length]
/-- Six cells stored one behind the other. -/
def set6 (w : World) (b : Nat) (y0 y1 y2 y3 y4 y5 : Value) : World := (((((w.setCell ⟨b, 0, none⟩ y0).setCell ⟨b, 1, none⟩ y1).setCell ⟨b, 2, none⟩ y2).setCell ⟨b, 3, none⟩ y3).setCell ⟨b, 4, none⟩ y4).setCell ⟨b, 5, none⟩ y5
theorem set6_same {w : World} {b : Nat} {x0 x1 x2 x3 x4 x5 : Value} {t : TypeId} (h : w.heap[b]? = some (.cells #[x0, x1, x2, x3, x4, x5] t (0, 0))) (y0 y1 y2 y3 y4 y5 : Value) :
    (set6 w b y0 y1 y2 y3 y4 y5).heap[b]? = some (.cells #[y0, y1, y2, y3, y4, y5] t (0, 0)) :=
  heap_setCell_same _ b 5 _ t y5 (heap_setCell_same _ b 4 _ t y4 (heap_setCell_same _ b 3 _ t y3 (heap_setCell_same _ b 2 _ t y2 (heap_setCell_same _ b 1 _ t y1 (heap_setCell_same w b 0 _ t y0 h)))))
theorem set6_other {w : World} {b k : Nat} (h : k ≠ b) (y0 y1 y2 y3 y4 y5 : Value) : (set6 w b y0 y1 y2 y3 y4 y5).heap[k]? = w.heap[k]? := by
  unfold set6
  rw [heap_setCell_other _ _ _ _ h, heap_setCell_other _ _ _ _ h, heap_setCell_other _ _ _ _ h, heap_setCell_other _ _ _ _ h, heap_setCell_other _ _ _ _ h, heap_setCell_other _ _ _ _ h]
theorem set6_kept {S : Nat → Prop} {a w : World} {b : Nat} (h : Kept S a w) (hb : S b) (y0 y1 y2 y3 y4 y5 : Value) : Kept S a (set6 w b y0 y1 y2 y3 y4 y5) :=
  (((((h.setCell (p := ⟨b, 0, none⟩) (.inl hb) _).setCell (p := ⟨b, 1, none⟩) (.inl hb) _).setCell (p := ⟨b, 2, none⟩) (.inl hb) _).setCell (p := ⟨b, 3, none⟩) (.inl hb) _).setCell (p := ⟨b, 4, none⟩) (.inl hb) _).setCell (p := ⟨b, 5, none⟩) (.inl hb) _
/-- Keys are no longer than texts may be. -/
def MKeys (m : Mp V) : Prop := ∀ k v, Has m k v → k.size ≤ maxLen
theorem MKeys.full {m : Mp V} (h : MKeys m) {k : Nat} (hk : k < (fullL m).length) : ((fullL m).getD k default).1.size ≤ maxLen := by
  have hm : (fullL m).getD k default ∈ fullL m := by rw [List.getD_eq_getElem?_getD, List.getElem?_eq_getElem hk]; simp
  exact h _ ((fullL m).getD k default).2 (mem_full.1 hm)
end
end Go.Proofs.YtcooapflofiolaaDoor
namespace Go.Proofs.YtcooapflofiolaaDoor.MS
open Go Go.RowKit Go.Shelf
set_option linter.unusedVariables false
set_option linter.unusedSimpArgs false
set_option maxRecDepth 100000
set_option maxHeartbeats 4000000
theorem sh_pos {w : World} (h : Sh w) : 0 < w.heap.size := cell_lt (h 0 (by decide))
theorem rehash_any (p : Pl) (k0 k1 : BitVec 64) (m : Mp VT) (w : World) (h : At w p k0 k1 m) (I : MInv (hashN k0 k1) m) (hks : MKeys m) (hf : 7 * m.ws.length ≤ m.n + m.tb) (hn : m.n < 2000) (hS : Sh w) (hS0 : ¬ p.own 0) :
    Calls Tryd.prog 69 #[.pointer (some ⟨p.b, 0, none⟩)] w fun e w' => e = .returned (.tuple #[]) ∧ (∃ q : Pl, q.b = p.b ∧ At w' q k0 k1 (rehash (hashN k0 k1) m) ∧ (∀ j, q.own j → j = p.b ∨ w.heap.size ≤ j)) ∧ Kept (· = p.b) w w' := by
  have HA := Lib.hid h
  have HI := Lib.hid I
  have HKS := Lib.hid hks
  have HF := Lib.hid hf
  have HSh := Lib.hid hS
  have hl := I.len
  obtain ⟨hg1, hg2, hg3⟩ := reG_good I hf hn
  have hgb := goodB_bounds hg1
  have htb : m.tb ≤ 7168 := by have := I.ld; omega
  obtain ⟨G, hG⟩ : ∃ G, G = reG m := ⟨_, rfl⟩
  rw [← hG] at hgb
  have HG := Lib.hid hG
  obtain ⟨g, hgg⟩ : ∃ g, g = m.ws.length := ⟨_, rfl⟩
  have c0 := h.c0
  have c1 := h.c1
  have c2 := h.c2
  have c4 := h.c4
  have c5 := h.c5
  rw [← hgg] at hl c2
  have HGG := Lib.hid hgg
  have HMN := Lib.hid (made_new k0 k1 G (by omega) (by omega) w)
  have hpb := h.lt (.inl rfl)
  have HFL := Lib.hid (full_len I)
  clear h I hks hf hS hG hgg hg1 hg2 hg3
  go_enter Tryd.func69, Tryd.ntmps69
  go_upto_region 1 with fail
  obtain ⟨c, hc⟩ : ∃ c, c = decide (m.tb = 0 ∨ 7 * g < 2 * m.n) := ⟨_, rfl⟩
  have hG2 : (if c then (g : Int) * 2 else (g : Int)) = (G : Int) := by
    have := HG.out
    unfold reG at this
    rw [← HGG.out] at this
    rw [this, hc]
    by_cases h : m.tb = 0 ∨ 7 * g < 2 * m.n
    · simp [h]
    · simp [h]
  have HG2 := Lib.hid hG2
  have HC := Lib.hid hc
  clear hc hG2
  go_cut [25] (fun cv wx => cv = .bool c ∧ wx = w)
  case first =>
    by_cases h1 : m.tb = 0
    · have d1 : ((m.tb : Int) == 0) = true := by simpa using h1
      have hc : c = true := by rw [HC.out]; simp [h1]
      have HC2 := Lib.hid hc
      clear h1 hc
      go_wp2
      go_meet
      exact ⟨by rw [HC2.out], rfl⟩
    · have d1 : ((m.tb : Int) == 0) = false := by simpa using h1
      have hc : c = decide (7 * (g : Int) < 2 * (m.n : Int)) := by
        rw [HC.out]
        by_cases h : 7 * g < 2 * m.n
        · rw [decide_eq_true (.inr h), decide_eq_true (by omega)]
        · rw [decide_eq_false (by rintro (h' | h'); exact h1 h'; exact h h'), decide_eq_false (by omega)]
      have HC2 := Lib.hid hc
      clear h1 hc
      go_wp2
      go_meet
      exact ⟨by rw [HC2.out], rfl⟩
  case rest =>
    obtain ⟨rfl, hww⟩ := hcut
    subst hww
    obtain ⟨w0, hw0⟩ : ∃ w0, w0 = wc := ⟨_, rfl⟩
    subst hw0
    go_upto_if 25 with fail
    go_cut [2] (fun gv wx => gv = .int .i64 (G : Int) ∧ wx = w0)
    case first =>
      cases c
      · have hG3 : (g : Int) = (G : Int) := HG2.out
        have HG3 := Lib.hid hG3
        clear hG3
        go_wp2
        go_meet
        exact ⟨by rw [HG3.out], rfl⟩
      · have hG3 : (g : Int) * 2 = (G : Int) := HG2.out
        have HG3 := Lib.hid hG3
        clear hG3
        go_wp2
        go_meet
        exact ⟨by rw [HG3.out], rfl⟩
    case rest =>
      obtain ⟨rfl, hww⟩ := hcut
      subst hww
      obtain ⟨w0, hw0⟩ : ∃ w0, w0 = wc := ⟨_, rfl⟩
      subst hw0
      go_wp2_with fail
      refine HMN.out.mono ?_
      rintro e w1 ⟨q, rfl, hq, hqo, hb1⟩
      have A1 := Lib.hid (HA.out.below (Nat.le_refl _) hb1)
      have HFU := Lib.hid (fulls_any p k0 k1 m w1 A1.out HI.out)
      have HQ := Lib.hid hq
      have HQO := Lib.hid hqo
      have HB1 := Lib.hid hb1
      clear hq hqo hb1 c0 c1 c2 c4 c5
      go_wp2_with fail
      refine HFU.out.mono ?_
      rintro e w2 ⟨v, rfl, hv, hb2⟩
      obtain ⟨va, vc, rfl, hvc⟩ := own_val hv
      have HV := Lib.hid hv
      have HB2 := Lib.hid hb2
      have HQ2 : Hid (At w2 q k0 k1 (empty (reG m))) := by have := HQ.out.below (Nat.le_refl _) hb2; rwa [HG.out] at this
      have HQL : Hid (∀ j, q.own j → j < w1.heap.size) := fun j hj => HQ.out.lt hj
      clear hv hb2
      go_wp2
      go_loopw [37] (fun i wr => ∃ k : Nat, k ≤ m.n ∧ i = .int .i64 k ∧ At wr q k0 k1 (partM (hashN k0 k1) m k) ∧ Kept q.own w2 wr) (fun i _ => m.n - (intOf i).toNat)
      case atStart => exact ⟨0, Nat.zero_le _, rfl, HQ2.out, Kept.refl _ _⟩
      case round =>
        obtain ⟨k, hk, rfl, hA, hK⟩ := hrel
        have HAr := Lib.hid hA
        have HKr := Lib.hid hK
        clear hA hK
        by_cases hlt : k < m.n
        · have hlt' : decide ((k : Int) < (m.n : Int)) = true := decide_eq_true (by omega)
          obtain ⟨gg, cap, hv, _, hgb1, hgb2, hcells⟩ := own_read HV.out (by omega)
          injection hv with hva _ hvc'
          subst hva
          have hat := flatS_at val (fullL m) k (by rw [HFL.out]; exact hlt)
          have hno : ¬ q.own gg := fun e => by have := HQL.out gg e; omega
          have s0 := kept_cell HKr.out (hcells _ _ hat.1) hno
          have s1 := kept_cell HKr.out (hcells _ _ hat.2) hno
          obtain ⟨x, hx⟩ : ∃ x, x = (fullL m).getD k default := ⟨_, rfl⟩
          rw [← hx] at s0 s1
          have HX := Lib.hid hx
          have hxs : x.1.size ≤ maxLen := by rw [hx]; exact HKS.out.full (by rw [HFL.out]; exact hlt)
          have hlt2 : (k : Int) < (m.n : Int) := by omega
          have hgr : gg < wr.heap.size := cell_lt s0
          have LA : Hid (Below wr.heap.size wr (wr.alloc (.cells #[.string x.1, val x.2] 109))) := (Below.refl _ wr).alloc (Nat.le_refl _) _
          have hSr : Sh wr := fun j hj => kept_cell HKr.out (low_cell HB2.out (Nat.le_refl _) (low_cell HB1.out (Nat.le_refl _) (HSh.out j hj))) (fun e => by have := HQO.out 0 e; have := sh_pos HSh.out; omega)
          have HLY := Lib.hid (lay_any q k0 k1 (partM (hashN k0 k1) m k) x.1 x.2 hxs (wr.alloc (.cells #[.string x.1, val x.2] 109)) (HAr.out.below (Nat.le_refl _) LA.out) (part_inv HI.out HF.out hn k hk) (hSr.below LA.out) (fun e => by have := HQO.out 0 e; have := sh_pos HSh.out; omega))
          clear hcells hat hx hvc' hSr hno hxs
          go_wp2_with fail
          refine HLY.out.mono ?_
          rintro e w5 ⟨rfl, hA5, hK5⟩
          have X1 : Hid (At w5 q k0 k1 (partM (hashN k0 k1) m (k + 1))) := by
            show At _ _ _ _ _
            rw [part_succ HI.out hlt, ← HX.out]; exact hA5
          have X2 : Hid (Kept q.own w2 w5) := (HKr.out.alloc _).trans hK5
          clear hA5 hK5
          go_wp2
          go_roundw
          case rel => exact ⟨k + 1, by omega, by go_num, X1.out, X2.out⟩
          case measure => simp [intOf]; omega
        · have hlt' : decide ((k : Int) < (m.n : Int)) = false := decide_eq_false (by omega)
          obtain rfl : k = m.n := by omega
          have hpq : ∀ j, p.own j → ¬ q.own j := fun j h1 h2 => by have := HA.out.lt h1; have := HQO.out j h2; omega
          have A3 : Hid (At wr p k0 k1 m) := (A1.out.below (Nat.le_refl _) HB2.out).kept HKr.out hpq
          have HPA : Hid (At wr q k0 k1 (rehash (hashN k0 k1) m)) := by
            show At _ _ _ _ _
            rw [← part_all HI.out]; exact HAr.out
          have HPQ := Lib.hid hpq
          have hbb : p.b ≠ q.b := fun e => hpq p.b (.inl rfl) (.inl e)
          have HBBQ := Lib.hid hbb
          clear hpq
          obtain ⟨M, hM⟩ : ∃ M, M = rehash (hashN k0 k1) m := ⟨_, rfl⟩
          rw [← hM] at HPA
          have HM := Lib.hid hM
          have q0 := HPA.out.c0
          have q1 := HPA.out.c1
          have q2 := HPA.out.c2
          have q3 := HPA.out.c3
          have q4 := HPA.out.c4
          have q5 := HPA.out.c5
          have p0 := A3.out.c0
          have p1 := A3.out.c1
          have p2 := A3.out.c2
          have p3 := A3.out.c3
          have p4 := A3.out.c4
          have p5 := A3.out.c5
          have f0 := A3.out.fz 0
          have f1 := A3.out.fz 1
          have f2 := A3.out.fz 2
          have f3 := A3.out.fz 3
          have f4 := A3.out.fz 4
          have f5 := A3.out.fz 5
          clear hM hbb
          go_wp2
          have hs6 := set6_same A3.out.hb (.int .u64 (Sip.U k0)) (.int .u64 (Sip.U k1)) (.slice (some ⟨q.bw, 0, none⟩) M.ws.length q.cw) (.slice (some ⟨q.bs, 0, none⟩) (8 * M.ws.length) q.cs) (.int .i64 M.n) (.int .i64 M.tb)
          have ho6 : ∀ k, k ≠ p.b → _ := fun k hk => set6_other (w := wr) hk (.int .u64 (Sip.U k0)) (.int .u64 (Sip.U k1)) (.slice (some ⟨q.bw, 0, none⟩) M.ws.length q.cw) (.slice (some ⟨q.bs, 0, none⟩) (8 * M.ws.length) q.cs) (.int .i64 M.n) (.int .i64 M.tb)
          have hnw : q.bw ≠ p.b := fun e => HPQ.out p.b (.inl rfl) (.inr (.inl e.symm))
          have hns : q.bs ≠ p.b := fun e => HPQ.out p.b (.inl rfl) (.inr (.inr e.symm))
          refine bodyPost_end (v := .tuple #[]) (by simp [results, Tryd.results69, go_sem]) rfl ⟨rfl, ⟨⟨p.b, q.bw, q.bs, q.cw, q.cs⟩, rfl, ?_, fun j hj => ?_⟩, ?_⟩
          · rw [← HM.out]
            obtain ⟨C, h1, h2⟩ := HPA.out.hw
            obtain ⟨D, h3, h4⟩ := HPA.out.hs
            exact ⟨hs6, ⟨C, (ho6 _ hnw).trans h1, h2⟩, ⟨D, (ho6 _ hns).trans h3, h4⟩, HPA.out.cw, HPA.out.cs, fun e => hnw e.symm, fun e => hns e.symm, HPA.out.n3⟩
          · rcases hj with h | h | h
            · exact .inl h
            · exact .inr (HQO.out j (.inr (.inl h)))
            · exact .inr (HQO.out j (.inr (.inr h)))
          · have hk2 : Kept (· = p.b) w0 w2 := Kept.of (HB1.out.trans (HB2.out.mono HB1.out.size)) (Nat.le_refl _)
            have hk3 : Kept (· = p.b) w0 wr := hk2.join HKr.out (fun _ h => h) (fun i hi h => by have := HQO.out i h; omega)
            exact set6_kept hk3 rfl _ _ _ _ _ _
end Go.Proofs.YtcooapflofiolaaDoor.MS

/- Put, over maps of texts. -/
namespace Go.Proofs.YtcooapflofiolaaDoor
section
variable {V : Type} [Inhabited V]
/-- What Put answers: was the key there, and an error. -/
def putB (H : ByteArray → Nat) (m : Mp V) (key : ByteArray) : Bool := (find H m key).isSome
def putE (H : ByteArray → Nat) (m : Mp V) (key : ByteArray) : Int := if (find H m key).isNone ∧ 2000 ≤ m.n then 7 else 0
end
end Go.Proofs.YtcooapflofiolaaDoor
namespace Go.Proofs.YtcooapflofiolaaDoor.MS
open Go Go.RowKit Go.Shelf
set_option linter.unusedVariables false
set_option linter.unusedSimpArgs false
set_option maxRecDepth 100000
set_option maxHeartbeats 4000000
/-- What becomes of a map: it lies where it lay, or in new blocks. -/
def Turned (w : World) (p : Pl) (k0 k1 : BitVec 64) (m' : Mp VT) (w' : World) : Prop := ∃ q : Pl, q.b = p.b ∧ At w' q k0 k1 m' ∧ (∀ j, q.own j → p.own j ∨ w.heap.size ≤ j) ∧ Kept p.own w w'
theorem put_any (p : Pl) (k0 k1 : BitVec 64) (m : Mp VT) (key : ByteArray) (u : VT) (w : World) (h : At w p k0 k1 m) (I : MInv (hashN k0 k1) m) (hks : MKeys m) (hkey : key.size ≤ maxLen) (hS : Sh w) (hS0 : ¬ p.own 0) :
    Calls Tryd.prog 17 #[.pointer (some ⟨p.b, 0, none⟩), .string key, val u] w fun e w' => e = .returned (.tuple #[.bool (putB (hashN k0 k1) m key), .int .i64 (putE (hashN k0 k1) m key)]) ∧ Turned w p k0 k1 (put (hashN k0 k1) m key u) w' := by
  have HM := Lib.hid (made_any p k0 k1 m w h I.len.1)
  have HFi := Lib.hid (find_any p k0 k1 m key hkey w h I)
  have HA := Lib.hid h
  have HI := Lib.hid I
  have HKS := Lib.hid hks
  have HSh := Lib.hid hS
  have HS0 := Lib.hid hS0
  have HKey := Lib.hid hkey
  have hl := I.len
  have hmx := I.mx
  clear h I hks hS hS0 hkey
  cases hf : find (hashN k0 k1) m key with
  | some i =>
    obtain ⟨hi, _, hk⟩ := find_some HI.out hf
    have HP : Hid (put (hashN k0 k1) m key u = { m with ss := m.ss.set i ((m.s i).1, u) }) := by show _ = _; unfold put; rw [hf, hk]
    have HB : Hid (putB (hashN k0 k1) m key = true ∧ putE (hashN k0 k1) m key = 0) := by constructor <;> simp [putB, putE, hf]
    rw [hf] at HFi
    clear hf hk
    go_enter Tryd.func17, Tryd.ntmps17
    go_wp2_with fail
    refine HM.out.mono ?_
    rintro e w' ⟨rfl, rfl⟩
    go_wp2_with fail
    refine HFi.out.mono ?_
    rintro e w1 ⟨rfl, hb⟩
    have A1 := Lib.hid (HA.out.below (Nat.le_refl _) hb)
    have HB1 := Lib.hid hb
    have c3 := A1.out.c3
    have sv := A1.out.sv hi
    have fv := A1.out.sf (i * 2 + 1)
    have hi' : (i : Int) < 8 * (m.ws.length : Int) := by omega
    clear hb
    rw [show toI (some i) = (i : Int) from rfl]
    go_wp2
    go_ret2
    rw [HB.out.1, HB.out.2, HP.out]
    exact ⟨rfl, p, rfl, A1.out.setV hi HI.out.sl u, fun j hj => .inl hj, (Kept.of HB1.out (Nat.le_refl _)).setCell (p := ⟨p.bs, i * 2 + 1, none⟩) (.inl (.inr (.inr rfl))) _⟩
  | none =>
    have HNF := Lib.hid hf
    by_cases hn : 2000 ≤ m.n
    · have HP : Hid (put (hashN k0 k1) m key u = m) := by show _ = _; exact put_full hf hn
      have HB : Hid (putB (hashN k0 k1) m key = false ∧ putE (hashN k0 k1) m key = 7) := by constructor <;> simp [putB, putE, hf, hn]
      have hd : decide ((2000 : Int) ≤ (m.n : Int)) = true := decide_eq_true (by omega)
      rw [hf] at HFi
      clear hf
      go_enter Tryd.func17, Tryd.ntmps17
      go_wp2_with fail
      refine HM.out.mono ?_
      rintro e w' ⟨rfl, rfl⟩
      go_wp2_with fail
      refine HFi.out.mono ?_
      rintro e w1 ⟨rfl, hb⟩
      have A1 := Lib.hid (HA.out.below (Nat.le_refl _) hb)
      have HB1 := Lib.hid hb
      have c4 := A1.out.c4
      clear hb
      rw [show toI none = -1 from rfl]
      go_wp2
      go_ret2
      rw [HB.out.1, HB.out.2, HP.out]
      exact ⟨rfl, p, rfl, A1.out, fun j hj => .inl hj, Kept.of HB1.out (Nat.le_refl _)⟩
    · have hn' : m.n < 2000 := by omega
      obtain ⟨r1, r2, r3, r4, r5, _⟩ := room_inv HI.out hn'
      have HP : Hid (put (hashN k0 k1) m key u = lay (hashN k0 k1) (room (hashN k0 k1) m) (key, u)) := (put_none HI.out hf hn').2.2.2.2.2
      have HB : Hid (putB (hashN k0 k1) m key = false ∧ putE (hashN k0 k1) m key = 0) := by constructor <;> simp [putB, putE, hf, hn]
      have hd : decide ((2000 : Int) ≤ (m.n : Int)) = false := decide_eq_false (by omega)
      have R1 := Lib.hid r1
      have hld := HI.out.ld
      rw [hf] at HFi
      clear hf r1 r2 r3 r4 r5 hn
      go_enter Tryd.func17, Tryd.ntmps17
      go_wp2_with fail
      refine HM.out.mono ?_
      rintro e w' ⟨rfl, rfl⟩
      go_wp2_with fail
      refine HFi.out.mono ?_
      rintro e w1 ⟨rfl, hb⟩
      have A1 := Lib.hid (HA.out.below (Nat.le_refl _) hb)
      have HB1 := Lib.hid hb
      have S1 : Hid (Sh w1) := HSh.out.below hb
      have c2 := A1.out.c2
      have c4 := A1.out.c4
      have c5 := A1.out.c5
      clear hb
      rw [show toI none = -1 from rfl]
      have hw1 : IntKind.i64.wrap ((m.n : Int) + (m.tb : Int)) = (m.n : Int) + (m.tb : Int) := IntWalk.i64_in _ (by omega)
      have hw2 : IntKind.i64.wrap (7 * (m.ws.length : Int)) = 7 * (m.ws.length : Int) := IntWalk.i64_in _ (by omega)
      by_cases hfull : 7 * m.ws.length ≤ m.n + m.tb
      · have hd2 : decide (7 * (m.ws.length : Int) ≤ (m.n : Int) + (m.tb : Int)) = true := decide_eq_true (by omega)
        have HRH := Lib.hid (fun W (hA : At W p k0 k1 m) (hS : Sh W) => rehash_any p k0 k1 m W hA HI.out HKS.out hfull hn' hS HS0.out)
        have HRM : Hid (room (hashN k0 k1) m = rehash (hashN k0 k1) m) := by show _ = _; unfold room; rw [if_pos hfull]
        have HFull := Lib.hid hfull
        clear hfull
        go_upto_region 9 with fail
        go_quiet (fail)
        have A2 : Hid (At (w1.drewN nq) p k0 k1 m) := A1.out.blocks (fun j hj => rfl)
        have S2 : Hid (Sh (w1.drewN nq)) := S1.out
        have B2 : Hid (Below w1.heap.size w1 (w1.drewN nq)) := ⟨rfl, rfl, rfl, Nat.le_refl _, fun _ _ => rfl⟩
        generalize w1.drewN nq = w2 at *
        clear hw1 hw2 c2 c4 c5
        go_wp2_with fail
        refine (HRH.out w2 A2.out S2.out).mono ?_
        rintro e w3 ⟨rfl, ⟨q, hqb, hq, hqo⟩, hk3⟩
        have HQ := Lib.hid hq
        have HQO := Lib.hid hqo
        have HK3 := Lib.hid hk3
        have hp0 : p.b ≠ 0 := fun e => HS0.out (.inl e.symm)
        have S3 : Hid (Sh w3) := fun j hj => kept_cell hk3 (S2.out j hj) (fun e => hp0 e.symm)
        have hq0 : ¬ q.own 0 := fun e => by
          rcases hqo 0 e with h | h
          · exact hp0 h.symm
          · have := sh_pos S2.out; omega
        have HL := Lib.hid (lay_any q k0 k1 (room (hashN k0 k1) m) key u HKey.out w3 (by rw [HRM.out]; exact hq) R1.out S3.out hq0)
        rw [hqb] at HL
        have HQB := Lib.hid hqb
        clear hq hqo hk3 hq0 hp0 hqb
        go_wp2_with fail
        refine HL.out.mono ?_
        rintro e w4 ⟨rfl, hA4, hK4⟩
        have HA4 := Lib.hid hA4
        have HK4 := Lib.hid hK4
        clear hA4 hK4
        go_wp2
        go_ret2
        rw [HB.out.1, HB.out.2, HP.out]
        refine ⟨rfl, q, HQB.out, HA4.out, fun j hj => ?_, ?_⟩
        · rcases HQO.out j hj with h | h
          · exact .inl (.inl h)
          · exact .inr (Nat.le_trans (Nat.le_trans HB1.out.size B2.out.size) h)
        · have h12 : Kept p.own w w2 := Kept.of (HB1.out.trans (B2.out.mono HB1.out.size)) (Nat.le_refl _)
          have h13 : Kept p.own w w3 := h12.join HK3.out (fun _ h => h) (fun i _ h => .inl h)
          exact h13.join HK4.out (fun _ h => h) (fun i hi h => by
            rcases HQO.out i h with h | h
            · exact .inl h
            · have := Nat.le_trans HB1.out.size B2.out.size; omega)
      · have hd2 : decide (7 * (m.ws.length : Int) ≤ (m.n : Int) + (m.tb : Int)) = false := decide_eq_false (by omega)
        have HRM : Hid (room (hashN k0 k1) m = m) := by show _ = _; unfold room; rw [if_neg hfull]
        clear hfull
        go_upto_region 9 with fail
        go_quiet (fail)
        have A2 : Hid (At (w1.drewN nq) p k0 k1 m) := A1.out.blocks (fun j hj => rfl)
        have S2 : Hid (Sh (w1.drewN nq)) := S1.out
        have B2 : Hid (Below w1.heap.size w1 (w1.drewN nq)) := ⟨rfl, rfl, rfl, Nat.le_refl _, fun _ _ => rfl⟩
        generalize w1.drewN nq = w2 at *
        clear hw1 hw2 c2 c4 c5
        have HL := Lib.hid (lay_any p k0 k1 m key u HKey.out w2 A2.out HI.out S2.out HS0.out)
        go_wp2_with fail
        refine HL.out.mono ?_
        rintro e w4 ⟨rfl, hA4, hK4⟩
        have HA4 := Lib.hid hA4
        have HK4 := Lib.hid hK4
        clear hA4 hK4
        go_wp2
        go_ret2
        rw [HB.out.1, HB.out.2, HP.out, HRM.out]
        exact ⟨rfl, p, rfl, HA4.out, fun j hj => .inl hj, (Kept.of (HB1.out.trans (B2.out.mono HB1.out.size)) (Nat.le_refl _)).trans HK4.out⟩
end Go.Proofs.YtcooapflofiolaaDoor.MS

/- Delete, over maps of texts. -/
namespace Go.Proofs.YtcooapflofiolaaDoor.MS
open Go Go.RowKit Go.Shelf
attribute [local go_sem] Oper.semAt_some
set_option linter.unusedVariables false
set_option linter.unusedSimpArgs false
set_option maxRecDepth 100000
set_option maxHeartbeats 4000000
theorem delete_any (p : Pl) (k0 k1 : BitVec 64) (m : Mp VT) (key : ByteArray) (w : World) (h : At w p k0 k1 m) (I : MInv (hashN k0 k1) m) (hkey : key.size ≤ maxLen) (hS : Sh w) (hS0 : ¬ p.own 0) :
    Calls Tryd.prog 16 #[.pointer (some ⟨p.b, 0, none⟩), .string key] w fun e w' => e = .returned (.bool (find (hashN k0 k1) m key).isSome) ∧ Turned w p k0 k1 (del (hashN k0 k1) m key) w' := by
  have HM := Lib.hid (made_any p k0 k1 m w h I.len.1)
  have HFi := Lib.hid (find_any p k0 k1 m key hkey w h I)
  have HA := Lib.hid h
  have HI := Lib.hid I
  have HSh := Lib.hid hS
  have HS0 := Lib.hid hS0
  have hl := I.len
  have hmx := I.mx
  have htb : m.tb ≤ 7168 := by have := I.ld; omega
  clear h I hS hS0 hkey
  cases hf : find (hashN k0 k1) m key with
  | none =>
    have HP : Hid (del (hashN k0 k1) m key = m) := by show _ = _; exact del_none hf
    rw [hf] at HFi
    clear hf
    go_enter Tryd.func16, Tryd.ntmps16
    go_wp2_with fail
    refine HM.out.mono ?_
    rintro e w' ⟨rfl, rfl⟩
    go_wp2_with fail
    refine HFi.out.mono ?_
    rintro e w1 ⟨rfl, hb⟩
    have A1 := Lib.hid (HA.out.below (Nat.le_refl _) hb)
    have HB1 := Lib.hid hb
    clear hb
    rw [show toI none = -1 from rfl]
    go_wp2
    go_ret
    rw [HP.out]
    exact ⟨rfl, p, rfl, A1.out, fun j hj => .inl hj, Kept.of HB1.out (Nat.le_refl _)⟩
  | some i =>
    obtain ⟨hi, hfc, _⟩ := find_some HI.out hf
    have hpos : 0 < m.n := by
      have := cnt_set (p := fun i => decide (m.c i < 128)) (q := fun j => if j = i then false else decide (m.c j < 128)) hi (fun j hj hne => by simp [hne])
      rw [HI.out.cn]; simp [hfc] at this; omega
    have HP : Hid (del (hashN k0 k1) m key = delAt m i) := by show _ = _; unfold del; rw [hf]
    rw [hf] at HFi
    clear hf hfc
    obtain ⟨e, he⟩ : ∃ e : Nat, e = i / 8 := ⟨_, rfl⟩
    have heg : e < m.ws.length := by omega
    have hdiv : ((i : Int).tdiv 8) = (e : Int) := by rw [Int.tdiv_eq_ediv_of_nonneg (by omega)]; omega
    have hdiv2 : ((i : Int) / 8) = (e : Int) := by omega
    have hv := HI.out.wl e
    obtain ⟨v, hvv⟩ : ∃ v, v = m.w e := ⟨_, rfl⟩
    rw [← hvv] at hv
    have HVV := Lib.hid hvv
    have HV := Lib.hid hv
    have HE := Lib.hid he
    obtain ⟨c, hc⟩ : ∃ c : Nat, c = if empB m e then 128 else 254 := ⟨_, rfl⟩
    obtain ⟨t, ht⟩ : ∃ t : Nat, t = if empB m e then m.tb else m.tb + 1 := ⟨_, rfl⟩
    have hcl : c < 256 := by rw [hc]; split <;> omega
    have HCL := Lib.hid hcl
    have HCC := Lib.hid hc
    have HT := Lib.hid ht
    have HEM := Lib.hid (emp_mch (m := m) (e := e) hvv)
    have HM2 : Hid (∀ W, Calls Tryd.prog 67 #[.int .u64 (v : Int)] W (fun e w' => e = .returned (.int .u8 (mch v 128 : Nat)) ∧ W = w')) := fun W => empties_any v hv W
    have HC3 : Hid (∀ W, Sh W → CallsIn Fence.wide 3 Tryd.prog 68 #[.int .u64 (v : Int), .int .i64 (i : Int), .int .u8 (c : Int)] W (fun e w' => e = .returned (.int .u64 (st v (i % 8) c : Nat)) ∧ w' = W)) := fun W hW => callsIn_wide.2 ((set_any v c (i : Int) HV.out HCL.out W hW).mono fun _ _ ⟨h1, h2⟩ => ⟨by rw [h1, show ix (i : Int) = i % 8 by unfold ix; omega], h2.symm⟩)
    clear hvv hv he hc ht hcl
    go_enter Tryd.func16, Tryd.ntmps16
    go_wp2_with fail
    refine HM.out.mono ?_
    rintro e' w' ⟨rfl, rfl⟩
    go_wp2_with fail
    refine HFi.out.mono ?_
    rintro e' w1 ⟨rfl, hb⟩
    have A1 := Lib.hid (HA.out.below (Nat.le_refl _) hb)
    have HB1 := Lib.hid hb
    have S1 : Hid (Sh w1) := HSh.out.below hb
    have c2 := A1.out.c2
    have cw := A1.out.wc heg
    rw [← HVV.out] at cw
    clear hb
    rw [show toI (some i) = (i : Int) from rfl]
    have heg2 : (e : Int) < (m.ws.length : Int) := by omega
    go_upto_if 26 with (go_at_call 67; refine (HM2.out _).mono ?_; rintro e' w' ⟨rfl, rfl⟩)
    go_cut [7] from 26 to 33 (fun cv wx => cv = .int .u8 (c : Int) ∧ At wx p k0 k1 { m with tb := t } ∧ Kept p.own w1 wx)
    case first =>
      have c5 := A1.out.c5
      have f5 := A1.out.fz 5
      by_cases h0 : mch v 128 = 0
      · have hd : (((mch v 128 : Nat) : Int) == 0) = true := by simpa using h0
        have he : empB m e = false := by rw [HEM.out]; simp [h0]
        have hc : c = 254 := by rw [HCC.out, he]; rfl
        have ht : t = m.tb + 1 := by rw [HT.out, he]; rfl
        have hw : (m.tb : Int) + 1 = ((m.tb + 1 : Nat) : Int) := by omega
        have X1 := Lib.hid hc
        have X2 := Lib.hid ht
        have X3 := Lib.hid hw
        clear h0 he hc ht hw
        rw [hd]
        go_wp2
        go_meet
        rw [X3.out, X1.out, X2.out]
        exact ⟨rfl, A1.out.setT _, (Kept.refl _ _).setCell (p := ⟨p.b, 5, none⟩) (.inl (.inl rfl)) _⟩
      · have hd : (((mch v 128 : Nat) : Int) == 0) = false := by simpa using h0
        have he : empB m e = true := by rw [HEM.out]; simp [h0]
        have hc : c = 128 := by rw [HCC.out, he]; rfl
        have ht : t = m.tb := by rw [HT.out, he]; rfl
        have X1 := Lib.hid hc
        have X2 := Lib.hid ht
        clear h0 he hc ht
        rw [hd]
        go_wp2
        go_meet
        rw [X1.out, X2.out]
        exact ⟨rfl, A1.out, Kept.refl _ _⟩
    case rest =>
      obtain ⟨rfl, hA3, hK3⟩ := hcut
      have A3 := Lib.hid hA3
      have K3 := Lib.hid hK3
      have z2 := hA3.c2
      have z3 := hA3.c3
      have zw := hA3.wc (j := e) heg
      have fw := hA3.wf e
      have SX : Hid (Sh wc) := fun j hj => kept_cell hK3 (S1.out j hj) HS0.out
      dsimp only at z2 z3 zw
      rw [show Mp.w { m with tb := t } e = v from HVV.out.symm] at zw
      have HC4 : Hid (∀ k, CallsIn Fence.wide 3 Tryd.prog 68 #[.int .u64 (v : Int), .int .i64 (i : Int), .int .u8 (c : Int)] (wc.drewN k) (fun e w' => e = .returned (.int .u64 (st v (i % 8) c : Nat)) ∧ w' = wc.drewN k)) := fun k => HC3.out _ SX.out
      clear hA3 hK3 c2 cw
      have hfn4 : Fence.wide.fn 68 := trivial
      have hn2 : 1 ≤ 4 := by omega
      go_upto_region 10 with fail
      refine (wpIn_wide (n := 4)).1 ?_
      refine region_tail_r 16 (by kernel_rfl) (by kernel_rfl) (by kernel_rfl) ?_
      simp only [List.take_succ_cons, List.take_zero, List.drop_succ_cons, List.drop_zero]
      repeat (gi_big_quiet_step ((gi_at_call 68; exact CallsIn.quiet_of_same (HC4.out _))))
      refine wpQuietIn_nil ?_
      intro _ hw'
      obtain ⟨nq, rfl⟩ := hw'
      have K4 : Hid (Kept p.own w1 ((wc.drewN nq).setCell ⟨p.bw, e, none⟩ (.int .u64 (st v (i % 8) c : Nat)))) := Kept.setCell (w := wc.drewN nq) ⟨K3.out.os, K3.out.tape, K3.out.output, K3.out.size, K3.out.block⟩ (p := ⟨p.bw, e, none⟩) (.inl (.inr (.inl rfl))) _
      have A4 : Hid (At ((wc.drewN nq).setCell ⟨p.bw, e, none⟩ (.int .u64 (st v (i % 8) c : Nat))) p k0 k1 { m with tb := t, ws := m.ws.set e (st v (i % 8) c) }) := MA.setW (w := wc.drewN nq) (A3.out.blocks (fun j hj => rfl)) heg
      gi_upto_region 11 with fail
      generalize (wc.drewN nq).setCell ⟨p.bw, e, none⟩ (.int .u64 (st v (i % 8) c : Nat)) = X1 at *
      have y3 := A4.out.c3
      have f30 := A4.out.sf (i * 2)
      have f31 := A4.out.sf (i * 2 + 1)
      have hil : i < 8 * (m.ws.set e (st v (i % 8) c)).length := by rw [List.length_set]; exact hi
      have sk := A4.out.sk (i := i) hil
      have sv := A4.out.sv (i := i) hil
      dsimp only at y3
      rw [List.length_set] at y3
      have hi' : (i : Int) < 8 * (m.ws.length : Int) := by omega
      have A5 : Hid (At ((X1.setCell ⟨p.bs, i * 2, none⟩ (.string ⟨#[]⟩)).setCell ⟨p.bs, i * 2 + 1, none⟩ (.string ⟨#[]⟩)) p k0 k1 { m with tb := t, ws := m.ws.set e (st v (i % 8) c), ss := m.ss.set i default }) :=
        MA.setS (w := X1) A4.out hil (by show m.ss.length = 8 * (m.ws.set e (st v (i % 8) c)).length; rw [List.length_set]; exact HI.out.sl) default
      have K5 : Hid (Kept p.own w1 ((X1.setCell ⟨p.bs, i * 2, none⟩ (.string ⟨#[]⟩)).setCell ⟨p.bs, i * 2 + 1, none⟩ (.string ⟨#[]⟩))) :=
        (K4.out.setCell (p := ⟨p.bs, i * 2, none⟩) (.inl (.inr (.inr rfl))) _).setCell (p := ⟨p.bs, i * 2 + 1, none⟩) (.inl (.inr (.inr rfl))) _
      go_upto_region 12 with fail
      generalize (X1.setCell ⟨p.bs, i * 2, none⟩ (.string ⟨#[]⟩)).setCell ⟨p.bs, i * 2 + 1, none⟩ (.string ⟨#[]⟩) = X2 at *
      have z4 := A5.out.c4
      have f4 := A5.out.fz 4
      dsimp only at z4
      have hnx : (m.n : Int) - 1 = ((m.n - 1 : Nat) : Int) := by omega
      have HNX := Lib.hid hnx
      have K6 := Lib.hid (K5.out.setCell (p := ⟨p.b, 4, none⟩) (.inl (.inl rfl)) (.int .i64 ((m.n - 1 : Nat) : Int)))
      have A6 := Lib.hid (A5.out.setN (m.n - 1))
      have hfin : delAt m i = { m with tb := t, ws := m.ws.set e (st v (i % 8) c), ss := m.ss.set i default, n := m.n - 1 } := by
        unfold delAt
        rw [← HE.out, ← HVV.out, ← HCC.out, ← HT.out]
      have HFN := Lib.hid hfin
      clear hnx hfin y3 f30 f31 sk sv z2 z3 zw fw
      go_wp2
      rw [HNX.out]
      go_ret
      rw [HP.out, HFN.out]
      exact ⟨rfl, p, rfl, A6.out, fun j hj => .inl hj, (Kept.of HB1.out (Nat.le_refl _)).trans K6.out⟩
end Go.Proofs.YtcooapflofiolaaDoor.MS

/- A map of texts that lives: what a law carries from act to act. -/
namespace Go.Proofs.YtcooapflofiolaaDoor
set_option linter.unusedVariables false
section
variable {V : Type} [Inhabited V] {H : ByteArray → Nat} {m : Mp V}
theorem put_has (I : MInv H m) {key : ByteArray} {v : V} (hn : m.n < 2000 ∨ find H m key ≠ none) (k : ByteArray) (u : V) : Has (put H m key v) k u ↔ (if k = key then u = v else Has m k u) := by
  cases hf : find H m key with
  | some x => exact (put_some I hf).2.2.2.2 k u
  | none => exact (put_none I hf (hn.resolve_right fun h => h hf)).2.2.2.2.1 k u
theorem put_has_of (I : MInv H m) {key : ByteArray} {v : V} {k : ByteArray} {u : V} (h : Has (put H m key v) k u) : k = key ∨ Has m k u := by
  by_cases hn : m.n < 2000 ∨ find H m key ≠ none
  · rw [put_has I hn] at h
    split at h
    · exact .inl ‹_›
    · exact .inr h
  · rw [put_full (Classical.not_not.1 fun h => hn (.inr h)) (Nat.le_of_not_lt fun h => hn (.inl h))] at h
    exact .inr h
theorem MKeys.put (I : MInv H m) (h : MKeys m) {key : ByteArray} {v : V} (hk : key.size ≤ maxLen) : MKeys (put H m key v) := fun k u hu => by
  rcases put_has_of I hu with rfl | h2
  · exact hk
  · exact h k u h2
theorem del_has (I : MInv H m) {key : ByteArray} (k : ByteArray) (u : V) : Has (del H m key) k u ↔ k ≠ key ∧ Has m k u := by
  cases hf : find H m key with
  | some x => exact (del_some I hf).2.2.2 k u
  | none =>
    rw [del_none hf]
    exact ⟨fun h => ⟨fun e => by subst e; exact (find_has I).1 ⟨u, h⟩ hf, h⟩, And.right⟩
theorem MKeys.del (I : MInv H m) (h : MKeys m) (key : ByteArray) : MKeys (del H m key) := fun k u hu => h k u ((del_has I k u).1 hu).2
theorem MKeys.empty (g : Nat) : MKeys (empty g : Mp V) := fun k u h => absurd h (has_empty_not _ _ _)
theorem find_some_iff (I : MInv H m) {key : ByteArray} : (find H m key).isSome = true ↔ ∃ v, Has m key v := by
  rw [find_has I]
  cases find H m key <;> simp
end
end Go.Proofs.YtcooapflofiolaaDoor
namespace Go.Proofs.YtcooapflofiolaaDoor.MS
open Go Go.RowKit Go.Shelf
set_option linter.unusedVariables false
set_option linter.unusedSimpArgs false
set_option maxRecDepth 100000
set_option maxHeartbeats 2000000
/-- A map that lives, all of it at or above a block. -/
structure Live (w : World) (lo : Nat) (p : Pl) (k0 k1 : BitVec 64) (m : Mp VT) : Prop where
  at_ : At w p k0 k1 m
  inv : MInv (hashN k0 k1) m
  keys : MKeys m
  sh : Sh w
  own : ∀ j, p.own j → lo ≤ j
  pos : 0 < lo
  le : lo ≤ w.heap.size
section
variable {w w' : World} {lo : Nat} {p : Pl} {k0 k1 : BitVec 64} {m : Mp VT}
theorem Live.zero (h : Live w lo p k0 k1 m) : ¬ p.own 0 := fun e => by have := h.own 0 e; have := h.pos; omega
theorem Live.below {k : Nat} (h : Live w lo p k0 k1 m) (hk : w.heap.size ≤ k) (hb : Below k w w') : Live w' lo p k0 k1 m :=
  ⟨h.at_.below hk hb, h.inv, h.keys, fun j hj => low_cell hb hk (h.sh j hj), h.own, h.pos, Nat.le_trans h.le hb.size⟩
theorem Live.kept {S : Nat → Prop} (h : Live w lo p k0 k1 m) (hk : Kept S w w') (hs : ∀ j, p.own j → ¬ S j) (h0 : ¬ S 0) : Live w' lo p k0 k1 m :=
  ⟨h.at_.kept hk hs, h.inv, h.keys, fun j hj => kept_cell hk (h.sh j hj) h0, h.own, h.pos, Nat.le_trans h.le hk.size⟩
theorem Live.low (h : Live w lo p k0 k1 m) (hk : Kept p.own w w') : Below lo w w' := hk.below h.le (fun j _ hj => h.own j hj)
theorem Live.len (h : Live w lo p k0 k1 m) : 1 ≤ m.ws.length := h.inv.len.1
/-- What an act leaves. -/
def Acted (w : World) (lo : Nat) (p : Pl) (k0 k1 : BitVec 64) (m' : Mp VT) (w' : World) : Prop := ∃ q : Pl, q.b = p.b ∧ Live w' lo q k0 k1 m' ∧ (∀ j, q.own j → p.own j ∨ w.heap.size ≤ j) ∧ Kept p.own w w'
theorem acted {m' : Mp VT} (h : Live w lo p k0 k1 m) (ht : Turned w p k0 k1 m' w') (I : MInv (hashN k0 k1) m') (hk : MKeys m') : Acted w lo p k0 k1 m' w' := by
  obtain ⟨q, h1, h2, h3, h4⟩ := ht
  refine ⟨q, h1, ⟨h2, I, hk, fun j hj => kept_cell h4 (h.sh j hj) h.zero, fun j hj => ?_, h.pos, Nat.le_trans h.le h4.size⟩, h3, h4⟩
  rcases h3 j hj with h5 | h5
  · exact h.own j h5
  · exact Nat.le_trans h.le h5
theorem put_live (h : Live w lo p k0 k1 m) (key : ByteArray) (u : VT) (hkey : key.size ≤ maxLen) :
    Calls Tryd.prog 17 #[.pointer (some ⟨p.b, 0, none⟩), .string key, val u] w fun e w' => e = .returned (.tuple #[.bool (putB (hashN k0 k1) m key), .int .i64 (putE (hashN k0 k1) m key)]) ∧ Acted w lo p k0 k1 (put (hashN k0 k1) m key u) w' :=
  (put_any p k0 k1 m key u w h.at_ h.inv h.keys hkey h.sh h.zero).mono fun e w' ⟨h1, h2⟩ => ⟨h1, acted h h2 (put_inv h.inv key u) (h.keys.put h.inv hkey)⟩
theorem delete_live (h : Live w lo p k0 k1 m) (key : ByteArray) (hkey : key.size ≤ maxLen) :
    Calls Tryd.prog 16 #[.pointer (some ⟨p.b, 0, none⟩), .string key] w fun e w' => e = .returned (.bool (find (hashN k0 k1) m key).isSome) ∧ Acted w lo p k0 k1 (del (hashN k0 k1) m key) w' :=
  (delete_any p k0 k1 m key w h.at_ h.inv hkey h.sh h.zero).mono fun e w' ⟨h1, h2⟩ => ⟨h1, acted h h2 (del_inv h.inv key) (h.keys.del h.inv key)⟩
theorem new_live (k0 k1 : BitVec 64) (hint : Int) (w : World) (hS : Sh w) :
    Calls Tryd.prog 13 #[.agg #[.int .u64 (Sip.U k0), .int .u64 (Sip.U k1)], .int .i64 hint] w fun e w' => Below w.heap.size w w' ∧ ((needF hint = 0 ∧ e = .returned (.pointer none)) ∨ (∃ (p : Pl) (g : Nat), needF hint = (g : Int) ∧ e = .returned (.pointer (some ⟨p.b, 0, none⟩)) ∧ Live w' w.heap.size p k0 k1 (empty g))) :=
  (new_any k0 k1 hint w).mono fun e w' ⟨h1, h2⟩ => ⟨h1, h2.imp id fun ⟨h3, p, g, h4, h5, h6, h7⟩ => ⟨p, g, h4, h5, h6, empty_inv (by rw [← h4]; exact h3), MKeys.empty g, hS.below h1, h7, sh_pos hS, h1.size⟩⟩
end
end Go.Proofs.YtcooapflofiolaaDoor.MS
