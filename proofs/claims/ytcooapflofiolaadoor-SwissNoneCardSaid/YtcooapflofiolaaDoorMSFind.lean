/- find, over maps of texts. -/
import Derived.Test.YtcooapflofiolaaDoorPSeqK
import Derived.Test.YtcooapflofiolaaDoorRoundQ
import Derived.Test.YtcooapflofiolaaDoorSwScan
namespace Go.Proofs.YtcooapflofiolaaDoor.MS
open Go Go.RowKit Go.Shelf
attribute [local go_sem] Oper.semAt_some
set_option linter.unusedVariables false
set_option linter.unusedSimpArgs false
set_option maxRecDepth 100000
set_option maxHeartbeats 4000000
abbrev VT := ByteArray
@[reducible] def val (v : VT) : Value := .string v
abbrev At (w : World) (p : Pl) (k0 k1 : BitVec 64) (m : Mp VT) : Prop := MA val 106 109 w p k0 k1 m
theorem find_any (p : Pl) (k0 k1 : BitVec 64) (m : Mp VT) (key : ByteArray) (hks : key.size ≤ maxLen) (w : World) (h : At w p k0 k1 m) (I : MInv (hashN k0 k1) m) :
    Calls Tryd.prog 66 #[.pointer (some ⟨p.b, 0, none⟩), .string key] w fun e w' => e = .returned (.int .i64 (toI (find (hashN k0 k1) m key))) ∧ Below w.heap.size w w' := by
  obtain ⟨w2, hw2⟩ : ∃ w2, w2 = (w.alloc (.cells #[.pointer (some ⟨p.b, 0, none⟩)] 26)).alloc (.cells #[.string key] 9) := ⟨_, rfl⟩
  have L0 : Hid (Below w.heap.size w w2) := by rw [hw2]; exact ((Below.refl _ w).alloc (Nat.le_refl _) _).alloc (by simp) _
  have A0 := Lib.hid (h.below (Nat.le_refl _) L0.out)
  have hlt := h.lt (.inl rfl)
  have Z2 : Hid (w2.heap.size = w.heap.size + 2) := by show _ = _; rw [hw2]; simp
  have SK : Hid (∀ W, Below w2.heap.size w2 W → W.cell? ⟨w.heap.size, 0, none⟩ = some (.pointer (some ⟨p.b, 0, none⟩)) ∧ W.cell? ⟨w.heap.size + 1, 0, none⟩ = some (.string key) ∧ W.cell? ⟨p.b, 0, none⟩ = some (.int .u64 (Sip.U k0)) ∧ W.cell? ⟨p.b, 1, none⟩ = some (.int .u64 (Sip.U k1))) := by
    show ∀ W, _
    intro W hW
    exact ⟨low_cell hW (Nat.le_refl _) (by rw [hw2]; simp), low_cell hW (Nat.le_refl _) (by rw [hw2]; simp), low_cell hW (Nat.le_refl _) A0.out.c0, low_cell hW (Nat.le_refl _) A0.out.c1⟩
  have HI := Lib.hid I
  obtain ⟨c, a, b, hc, ha, hb, he, hb1, hc1⟩ := hash_parts k0 k1 key
  have HS : Hid (∀ W, Calls Tryd.prog 99 #[.agg #[.int .u64 (Sip.U k0), .int .u64 (Sip.U k1)], .string key] W fun e w' => e = .returned (.int .u64 (c : Int)) ∧ Below W.heap.size W w') := fun W => sum_n k0 k1 key hks hc W
  have HP : Hid (∀ W, Calls Tryd.prog 98 #[.int .u64 (c : Int)] W fun e w' => e = .returned (.tuple #[.int .u64 (a : Int), .int .u8 (b : Int)]) ∧ W = w') := fun W => split_any c a b he hb1 hc1 W
  have HF : Hid (find (hashN k0 k1) m key = findL m b key (grps a m.ws.length)) := by show _ = _; unfold find; rw [ha, hb]
  have HA : Hid (a < 18446744073709551616 ∧ b < 128) := ⟨by omega, hb1⟩
  have HW2 := Lib.hid hw2
  clear h I hks hc ha hb he hb1 hc1 hw2
  refine (callsIn_wide (n := 4)).1 ?_
  refine callsIn_of_wp_marks Tryd.func66 rfl trivial ?_ rfl
  simp only [Tryd.ntmps66, List.size_toArray, List.length_cons, List.length_nil, Nat.reduceAdd, Nat.reduceSub, Array.replicate_succ, Array.replicate_zero, List.push_toArray, List.append_toArray, List.nil_append, List.cons_append]
  refine wpIn_wide.2 ?_
  go_wp2_with fail
  go_step3
  go_upto_region 1 with fail
  rw [← HW2.out]
  go_cut [5, 6] from 11 to 20 (fun hv bp wx => hv = .int .u64 (a : Int) ∧ ∃ B, bp = .pointer (some ⟨B, 0, none⟩) ∧ w2.heap.size ≤ B ∧ wx.heap[B]? = some (.cells #[.int .u8 (b : Int)] 5 (0, 0)) ∧ Below w2.heap.size w2 wx)
  case first =>
    have Lx : Hid (Below w2.heap.size w2 w2.drew) := (Below.refl _ _).drew
    have Ly : Hid (Below w2.heap.size w2 (w2.alloc (.cells #[.int .u8 0] 5)).drew) := ((Below.refl _ _).alloc (Nat.le_refl _) _).drew
    go_region_held3 (fun W => W.cell? ⟨w.heap.size, 0, none⟩ = some (.pointer (some ⟨p.b, 0, none⟩)) ∧ W.cell? ⟨w.heap.size + 1, 0, none⟩ = some (.string key) ∧ W.cell? ⟨p.b, 0, none⟩ = some (.int .u64 (Sip.U k0)) ∧ W.cell? ⟨p.b, 1, none⟩ = some (.int .u64 (Sip.U k1)))
      (first | exact SK.out _ HB3.out | exact SK.out _ (HB3.out.alloc HB3.out.size _) | exact SK.out _ Lx.out | exact SK.out _ Ly.out | exact SK.out _ (HB3.out.setCell (p := ⟨w2.heap.size, 0, none⟩) (Nat.le_refl _) _))
      (first
        | (go_at_call 99; refine (HS.out _).mono ?_; rintro e w3 ⟨rfl, hb3⟩; have HB3 : Hid (Below w2.heap.size w2 w3) := (by first | exact Lx.out.trans hb3 | exact Ly.out.trans (hb3.mono Ly.out.size)); first | (have x1 : w3.cell? ⟨w2.heap.size, 0, none⟩ = some (.int .u8 0) := low_cell hb3 (Nat.le_refl _) (by simp); have f1 : w3.frozen? ⟨w2.heap.size, 0, none⟩ = false := (hb3.frozen (p := ⟨w2.heap.size, 0, none⟩) (by simp)).trans (by simp); have X1 : Hid (w3.heap[w2.heap.size]? = some (.cells #[.int .u8 0] 5 (0, 0))) := (hb3.block w2.heap.size (by simp)).trans (heap_alloc_new w2 _)) | have X0 := trivial; clear hb3)
        | (go_at_call 98; refine (HP.out _).mono ?_; rintro e w' ⟨rfl, rfl⟩))
    all_goals (go_wp2_with fail; go_meet; first | exact ⟨rfl, w3.heap.size, rfl, HB3.out.size, heap_alloc_new _ _, HB3.out.alloc HB3.out.size _⟩ | exact ⟨rfl, w2.heap.size, rfl, Nat.le_refl _, (heap_setCell_same _ _ _ _ _ _ X1.out).trans rfl, HB3.out.setCell (p := ⟨w2.heap.size, 0, none⟩) (Nat.le_refl _) _⟩)
  case rest =>
    obtain ⟨rfl, B, rfl, hBB, hBx, hb⟩ := hcut
    have z0 := (SK.out _ hb).1
    have A1 := Lib.hid (A0.out.below (Nat.le_refl _) hb)
    have c2 := A1.out.c2
    have HBX := Lib.hid hBx
    have L1 := Lib.hid hb
    have hBl : B < wc.heap.size := (Array.getElem?_eq_some_iff.1 hBx).1
    have hpb := A1.out.lt (.inl rfl)
    clear hBx hb
    go_wp2_with fail
    go_step3
    have hsw : w.heap.size < wc.heap.size := cell_lt z0
    go_wp2_with (go_at_call 100; refine (seq_any _ _ _).mono ?_; rintro e w' ⟨rfl, rfl⟩)
    refine (wpIn_wide (n := 4)).1 ?_
    have hgl := HI.out.len
    have HGD := Lib.hid HI.out.gd
    have HAL := HA.out.1
    obtain ⟨g, hg⟩ : ∃ g, g = m.ws.length := ⟨_, rfl⟩
    rw [← hg] at hgl HGD c2 ⊢
    obtain ⟨s, hs⟩ : ∃ s, s = wc.heap.size := ⟨_, rfl⟩
    rw [← hs]
    obtain ⟨W0, hW0⟩ : ∃ W0, ((wc.alloc (Obj.cells #[Value.int IntKind.i64 (-1)] 3)).alloc (Obj.cells #[Value.int IntKind.u64 a] 22)).alloc (Obj.cells #[Value.int IntKind.i64 g] 3) = W0 := ⟨_, rfl⟩
    have hz : W0.heap.size = s + 3 := by rw [← hW0]; simp [hs]
    have bA : Boxed W0 s 3 (.int .i64 (-1)) := by rw [← hW0, hs]; exact ((Boxed.new wc 3 _).alloc _).alloc _
    have bH : W0.heap[s + 1]? = some (.cells #[.int .u64 a] 22 (0, 0)) := by
      rw [← hW0]; have := (Boxed.new (wc.alloc (Obj.cells #[Value.int IntKind.i64 (-1)] 3)) 22 (.int .u64 a)).alloc (Obj.cells #[Value.int IntKind.i64 g] 3); simpa [hs, Boxed] using this
    have bG : W0.heap[s + 1 + 1]? = some (.cells #[.int .i64 g] 3 (0, 0)) := by
      rw [← hW0]; have := Boxed.new ((wc.alloc (Obj.cells #[Value.int IntKind.i64 (-1)] 3)).alloc (Obj.cells #[Value.int IntKind.u64 a] 22)) 3 (.int .i64 g); simpa [hs, Boxed] using this
    have hB0 : Below s wc W0 := by
      rw [← hW0, hs]; exact (((Below.refl _ wc).alloc (Nat.le_refl _) _).alloc (by simp) _).alloc (by simp; omega) _
    rw [hW0]
    have HSs := Lib.hid hs
    have HG := Lib.hid hg
    have HB0 := Lib.hid hB0
    clear hs hW0 hg hB0
    refine wpIn_rangeFunc_ownG (n := 4) rfl (by omega) (gf := 115) (lb := #[.pointer (some ⟨s + 1 + 1, 0, none⟩), .pointer (some ⟨s + 1, 0, none⟩)]) rfl trivial (enters_of Tryd.func115 (by kernel_rfl) rfl)
      (seqk_stops 3 (by omega) (s + 1 + 1) (s + 1) a g HAL HGD.out W0 bG bH) Kp.t (Kp.b (by omega) (by omega)) (Below.refl _ _) (fun _ => rfl)
      (fun pre W => (∀ rest, findL m b key (pre.map (el a g) ++ rest) = findL m b key rest) ∧ Below W0.heap.size W0 W)
      (fun c pre W => Boxed W s 3 (.int .i64 (toI (findL m b key (pre.map (el a g))))) ∧ (c = .exit 0 ∧ ∀ rest, findL m b key (pre.map (el a g) ++ rest) = findL m b key (pre.map (el a g))) ∧ Below s wc W)
      (OwnFrom.and (ownFrom_pure _ (fun pre : List Nat => ∀ rest, findL m b key (pre.map (el a g) ++ rest) = findL m b key rest)) (ownFrom_below (Nat.le_refl _) (Nat.le_refl _)))
      (fun c => OwnFrom.and (Own.from (boxed_own s 3 (fun pre : List Nat => .int .i64 (toI (findL m b key (pre.map (el a g)))))) _)
        (OwnFrom.and (ownFrom_pure _ (fun pre : List Nat => c = .exit 0 ∧ ∀ rest, findL m b key (pre.map (el a g) ++ rest) = findL m b key (pre.map (el a g)))) (ownFrom_below (by rw [HSs.out]; exact Nat.le_refl _) (by omega))))
      ⟨fun rest => rfl, Below.refl _ _⟩
      (fun x => { tmps := List.toArray (Value.pointer (some ⟨p.b, 0, none⟩) :: Value.string key :: Value.pointer (some ⟨w.heap.size, 0, none⟩) :: Value.pointer (some ⟨w.heap.size + 1, 0, none⟩) :: Value.int .i64 0 :: Value.int .u64 a :: Value.pointer (some ⟨B, 0, none⟩) :: Value.pointer (some ⟨s, 0, none⟩) :: .int .i64 (el a g x : Nat) :: undef :: undef :: u11 :: u12 :: u13 :: u14 :: u15 :: u16 :: u17 :: u18 :: u19 :: u20 :: Value.int .u64 a :: Value.pointer (some ⟨p.b, 0, none⟩) :: Value.pointer (some ⟨p.b, 0, none⟩) :: Value.pointer (some ⟨p.b, 2, none⟩) :: Value.slice (some ⟨p.bw, 0, none⟩) g p.cw :: Value.int .i64 g :: Value.func (Fn.func 115) #[] #[Value.pointer (some ⟨s + 1 + 1, 0, none⟩), Value.pointer (some ⟨s + 1, 0, none⟩)] :: .int .i64 (el a g x : Nat) :: undef :: undef :: undef :: undef :: undef :: undef :: undef :: undef :: undef :: undef :: undef :: undef :: undef :: undef :: undef :: undef :: undef :: undef :: undef :: undef :: undef :: undef :: undef :: undef :: undef :: undef :: undef :: undef :: undef :: undef :: undef :: undef :: undef :: undef :: undef :: undef :: undef :: undef :: undef :: []), defers := [] }) ?assign ?body ?done ?stop
    case assign =>
      intro l x W K hK
      gi_wp2
      exact hK
    case body =>
      rintro l pre x W ⟨hne, hB⟩ hlt
      have HNE := Lib.hid hne
      have HB := Lib.hid hB
      have y0 := low_cell hB (Nat.le_refl _) (low_cell HB0.out (by rw [HSs.out]; exact Nat.le_refl _) z0)
      have y6 := low_cell hB (Nat.le_refl _) (low_cell HB0.out (by rw [HSs.out]; exact Nat.le_refl _) (show wc.cell? ⟨B, 0, none⟩ = some (.int .u8 (b : Int)) by simp [World.cell?, HBX.out]))
      have AW : Hid (At W p k0 k1 m) := A1.out.below (k := s) (Nat.le_of_eq HSs.out.symm) (HB0.out.trans (hB.mono (by omega)))
      have y2 := AW.out.c2
      rw [← HG.out] at y2
      obtain ⟨e, he⟩ : ∃ e, e = el a g x := ⟨_, rfl⟩
      rw [← he]
      have heg : e < g := by rw [he]; exact el_lt _ _ _ (by omega)
      have yw := AW.out.wc (j := e) (by rw [← HG.out]; exact heg)
      have hv := HI.out.wl e
      obtain ⟨v, hvv⟩ : ∃ v, v = m.w e := ⟨_, rfl⟩
      rw [← hvv] at yw hv
      have HV := Lib.hid hv
      have HVV := Lib.hid hvv
      have HE := Lib.hid he
      have hbl : b < 256 := by have := HA.out.2; omega
      have HBl := Lib.hid hbl
      have heg' : (e : Int) < (g : Int) := by omega
      have hfn1 : Fence.wide.fn 101 := trivial
      have hfn2 : Fence.wide.fn 103 := trivial
      have hfn3 : Fence.wide.fn 102 := trivial
      have hfn4 : Fence.wide.fn 67 := trivial
      have hn2 : 1 ≤ 4 - 1 - 1 := by omega
      have mx : Tryd.prog.follows .mixedOrders = true := by kernel_rfl
      have HBA := Lib.hid bA
      have HST : Hid (∀ rest, findL m b key ((pre ++ [x]).map (el a g) ++ rest) = findL m b key (e :: rest)) := by
        show ∀ rest, _
        intro rest
        rw [List.map_append, List.append_assoc, HNE.out, he]; rfl
      clear hne hB bA bH bG hv hvv he hbl z0 c2
      have HM : Hid (∀ W, CallsIn (Fence.wide.inRound l) 1 Tryd.prog 101 #[.int .u64 (v : Int), .int .u8 (b : Int)] W (fun e w' => e = .returned (.int .u8 (mch v b : Nat)) ∧ w' = W)) := fun W => CallsIn.inRound l ((callsIn_wide (n := 1)).2 ((match_any v b HV.out HBl.out W).mono fun _ _ ⟨h1, h2⟩ => ⟨h1, h2.symm⟩))
      gi_wp2
      refine region_quiet_r (by kernel_rfl) (by kernel_rfl) (by kernel_rfl) ?_
      repeat (gi_big_quiet_step ((gi_at_call 101; exact CallsIn.quiet_of_same (HM.out _))))
      refine wpQuietIn_nil ?_
      intro _ hw'
      obtain ⟨nq, rfl⟩ := hw'
      obtain ⟨W1, hW1⟩ : ∃ W1, W1 = W.drewN nq := ⟨_, rfl⟩
      rw [← hW1]
      have HB1 : Hid (Below W.heap.size W W1) := by rw [hW1]; exact ⟨rfl, rfl, rfl, Nat.le_refl _, fun _ _ => rfl⟩
      have hsW : s + 3 ≤ W.heap.size := by have := HB.out.size; omega
      have HBW : Hid (Below W0.heap.size W0 W) := HB.out
      have A2 : Hid (∀ wr, Below W.heap.size W wr → At wr p k0 k1 m ∧ wr.cell? ⟨w.heap.size, 0, none⟩ = some (.pointer (some ⟨p.b, 0, none⟩)) ∧ wr.cell? ⟨w.heap.size + 1, 0, none⟩ = some (.string key) ∧ Boxed wr s 3 (.int .i64 (-1)) ∧ Below s wc wr) := by
        show ∀ wr, _
        intro wr hwr
        have hl := HB0.out.trans (HB.out.mono (by omega))
        have hl2 := hl.trans (hwr.mono (by omega))
        have hs2 := SK.out _ (L1.out.trans (hl2.mono (by have := L1.out.size; have := HSs.out; omega)))
        exact ⟨AW.out.below (Nat.le_refl _) hwr, hs2.1, hs2.2.1, (hwr.block s (by omega)).trans ((HB.out.block s (by omega)).trans HBA.out), hl2⟩
      clear hW1 HB y0 y6 AW y2 yw HM
      gi_wp2
      gi_loopw [9, 10] (fun st _ wr => ∃ n : Nat, n < 256 ∧ st = .int .u8 n ∧ (∀ i, i < 8 → n.testBit i = true → gt v i = b) ∧ (∀ i, i < 8 → gt v i = b → n.testBit i = false → (m.s (8 * e + i)).1 ≠ key) ∧ Below W.heap.size W wr) (fun st _ _ => (intOf st).toNat)
      case atStart =>
        refine ⟨mch v b, mch_lt v b, rfl, fun i hi h => ?_, fun i hi h h2 => ?_, HB1.out⟩
        · rw [bit_mch v b i hi] at h; simpa using h
        · rw [bit_mch v b i hi, h] at h2; simp at h2
      case round =>
        obtain ⟨n, hn, rfl, hin, hout, hB⟩ := hrel
        have HIN := Lib.hid hin
        have HOUT := Lib.hid hout
        have HB2 := Lib.hid hB
        obtain ⟨a2, z0, z1, zb, hl⟩ := A2.out wr hB
        have zs := zb.cell
        have zf := zb.frozen
        have ZB := Lib.hid zb
        have HL := Lib.hid hl
        clear zb hl
        have y2 := a2.c2
        rw [← HG.out] at y2
        have yw := a2.wc (j := e) (by rw [← HG.out]; exact heg)
        rw [← HVV.out] at yw
        have y3 := a2.c3
        rw [← HG.out] at y3
        have AA := Lib.hid a2
        clear hin hout hB a2
        by_cases h0 : n = 0
        · subst h0
          have HM : Hid (∀ W, CallsIn (Fence.wide.inRound l) 1 Tryd.prog 67 #[.int .u64 (v : Int)] W (fun e w' => e = .returned (.int .u8 (mch v 128 : Nat)) ∧ w' = W)) := fun W => CallsIn.inRound l ((callsIn_wide (n := 1)).2 ((empties_any v HV.out W).mono fun _ _ ⟨h1, h2⟩ => ⟨h1, h2.symm⟩))
          by_cases hm0 : mch v 128 = 0
          · have hd0 : (((mch v 128 : Nat) : Int) == 0) = true := by simpa using hm0
            have hd1 : (((mch v 128 : Nat) : Int) != 0) = false := by simpa using hm0
            have HM0 := Lib.hid hm0
            clear hm0
            gi_wp2_with (gi_at_call 67; (with_reducible refine (HM.out _).mono ?_); rintro e w' ⟨rfl, rfl⟩)
            have hms := inG_missed HVV.out HOUT.out
            have hem : empB m e = false := by rw [emp_mch HVV.out]; exact decide_eq_false (fun h => h HM0.out)
            refine ⟨keeps_below HB2.out, Kp.below HB2.out (by omega) (by omega), fun rest => ?_, HBW.out.trans (HB2.out.mono HBW.out.size)⟩
            rw [HST.out, findL_on hms hem]
          · have hd0 : (((mch v 128 : Nat) : Int) == 0) = false := by simpa using hm0
            have hd1 : (((mch v 128 : Nat) : Int) != 0) = true := by simpa using hm0
            have HM0 := Lib.hid hm0
            clear hm0
            gi_wp2_with (gi_at_call 67; (with_reducible refine (HM.out _).mono ?_); rintro e w' ⟨rfl, rfl⟩)
            have hms := inG_missed HVV.out HOUT.out
            have hem : empB m e = true := by rw [emp_mch HVV.out]; exact decide_eq_true HM0.out
            have hr : ∀ rest, findL m b key ((pre ++ [x]).map (el a g) ++ rest) = none := fun rest => by rw [HST.out, findL_stop hms hem]
            have hr0 := hr []
            rw [List.append_nil] at hr0
            refine ⟨keeps_below HB2.out, ?_, ⟨rfl, fun rest => by rw [hr, hr0]⟩, HL.out⟩
            rw [hr0]; exact ZB.out
        · have hd0 : ((n : Int) == 0) = false := by simpa using h0
          have hd1 : ((n : Int) != 0) = true := by simpa using h0
          have hf := first_lt hn h0
          have HF1 := Lib.hid (first_bit hn h0)
          have HLE : Hid (∀ i, i < 8 → n.testBit i = true → firstF n ≤ i) := fun i hi h => first_le hn hi h
          have HNB : Hid (∀ i, i < 8 → (nextF n).testBit i = (n.testBit i && i != firstF n)) := fun i hi => next_bit hn hi
          have hnl := next_lt hn h0
          have HC1 : Hid (∀ W, CallsIn (Fence.wide.inRound l) 1 Tryd.prog 103 #[.int .u8 (n : Int)] W (fun e w' => e = .returned (.int .i64 (firstF n : Nat)) ∧ w' = W)) := fun W => CallsIn.inRound l ((callsIn_wide (n := 1)).2 ((first_any n hn W).mono fun _ _ ⟨h1, h2⟩ => ⟨h1, h2.symm⟩))
          have HC2 : Hid (∀ W, CallsIn (Fence.wide.inRound l) 1 Tryd.prog 102 #[.int .u8 (n : Int)] W (fun e w' => e = .returned (.int .u8 (nextF n : Nat)) ∧ w' = W)) := fun W => CallsIn.inRound l ((callsIn_wide (n := 1)).2 ((next_any n hn W).mono fun _ _ ⟨h1, h2⟩ => ⟨h1, h2.symm⟩))
          clear h0
          obtain ⟨q, hq⟩ : ∃ q, q = firstF n := ⟨_, rfl⟩
          rw [← hq] at hf HF1 HLE HNB HC1
          have hiq : 8 * e + q < 8 * g := by omega
          have ys := AA.out.sk (i := 8 * e + q) (by rw [← HG.out]; exact hiq)
          obtain ⟨kk, hkk⟩ : ∃ kk, kk = (m.s (8 * e + q)).1 := ⟨_, rfl⟩
          rw [← hkk] at ys
          have HQ := Lib.hid hq
          have HKK := Lib.hid hkk
          have hiq' : 8 * (e : Int) + (q : Int) < 8 * (g : Int) := by omega
          clear hq hkk
          gi_wp2_with (gi_at_call 103; (with_reducible refine (HC1.out _).mono ?_); rintro e w' ⟨rfl, rfl⟩)
          obtain ⟨ii, hii⟩ : ∃ ii : Nat, ii = 8 * e + q := ⟨_, rfl⟩
          rw [show (8 * (e : Int) + (q : Int)) = (ii : Int) by omega]
          rw [← hii] at ys hiq HKK
          have hiq2 : (ii : Int) < 8 * (g : Int) := by omega
          have HII := Lib.hid hii
          clear hii hiq'
          refine region_quiet_r (by kernel_rfl) (by kernel_rfl) (by kernel_rfl) ?_
          repeat (gi_big_quiet_step (fail))
          refine wpQuietIn_nil ?_
          intro _ hw'
          obtain ⟨nq2, rfl⟩ := hw'
          by_cases hkey : kk = key
          · have hkb : (kk.toList == key.toList) = true := by rw [beq_toList]; exact decide_eq_true hkey
            have HKY := Lib.hid hkey
            clear hkey
            rw [hkb]
            gi_wp2
            have hfd := inG_found HVV.out hf HIN.out HOUT.out HLE.out HF1.out (by rw [← HII.out, ← HKK.out]; exact HKY.out)
            have hr : ∀ rest, findL m b key ((pre ++ [x]).map (el a g) ++ rest) = some ii := fun rest => by rw [HST.out, findL_found hfd, HII.out]
            have hr0 := hr []
            rw [List.append_nil] at hr0
            refine ⟨(keeps_below (W' := w'.drewN nq2) ⟨HB2.out.os, HB2.out.tape, HB2.out.output, HB2.out.size, HB2.out.block⟩).trans ((KeepsOthers.setCell _ _ _).from _), ?_, ⟨rfl, fun rest => by rw [hr, hr0]⟩, Below.setCell (w := w'.drewN nq2) (p := ⟨s, 0, none⟩) (show Below s wc (w'.drewN nq2) from ⟨HL.out.os, HL.out.tape, HL.out.output, HL.out.size, HL.out.block⟩) (Nat.le_refl _) _⟩
            rw [hr0]
            exact Boxed.set (W := w'.drewN nq2) _ ZB.out
          · have hkb : (kk.toList == key.toList) = false := by rw [beq_toList]; exact decide_eq_false hkey
            have HKY := Lib.hid hkey
            clear hkey
            rw [hkb]
            gi_wp2_with (gi_at_call 102; (with_reducible refine (HC2.out _).mono ?_); rintro e w' ⟨rfl, rfl⟩)
            go_roundw
            case rel =>
              refine ⟨nextF n, by omega, rfl, fun i hi h => ?_, fun i hi h h2 => ?_, ⟨HB2.out.os, HB2.out.tape, HB2.out.output, HB2.out.size, HB2.out.block⟩⟩
              · rw [HNB.out i hi] at h
                simp only [Bool.and_eq_true] at h
                exact HIN.out i hi h.1
              · rw [HNB.out i hi] at h2
                by_cases hiq3 : i = q
                · subst hiq3; rw [← HII.out, ← HKK.out]; exact HKY.out
                · cases hb : n.testBit i with
                  | false => exact HOUT.out i hi h hb
                  | true => rw [hb] at h2; simp [hiq3] at h2
            case measure => simp [intOf]; omega
    case done =>
      rintro D ys W hD rfl ⟨hne, hB⟩ hK
      have hr : findL m b key (grps a g) = none := by
        have := hne []
        rw [List.append_nil] at this
        exact this
      have hcA : W.cell? ⟨s, 0, none⟩ = some (.int .i64 (-1)) := (hB.cell (p := ⟨s, 0, none⟩) (by show s < _; omega)).trans bA.cell
      have HR := Lib.hid hr
      clear hne hr
      go_wp2
      rw [Exit.noGoto_ret]
      refine ⟨by simp, .inl ⟨_, _, rfl, run_takeDeferred hK, ?_⟩⟩
      refine ⟨_, results_tmp rfl _ _ _, ?_, ?_⟩
      · rw [HF.out, ← HG.out, HR.out]; rfl
      · have h7 := L0.out.trans (L1.out.mono (by have := Z2.out; omega))
        exact (h7.trans ((HB0.out.trans (hB.mono (by omega))).mono (by have := HSs.out; omega))).trans (belowK_b (w := W0) (by have := HSs.out; omega) W D _ _ hD hK rfl rfl)
    case stop =>
      rintro D c pre W hD hpre ⟨hA, ⟨rfl, hst⟩, hB⟩ hK
      have hcA := hA.cell
      have hr : findL m b key (grps a g) = findL m b key (pre.map (el a g)) := by
        obtain ⟨r, hr⟩ := hpre
        have := hst (r.map (el a g))
        rw [← List.map_append, hr] at this
        exact this
      have HR := Lib.hid hr
      clear hst hr hpre
      gi_wp2
      go_wp2
      rw [Exit.noGoto_ret]
      refine ⟨by simp, .inl ⟨_, _, rfl, run_takeDeferred hK, ?_⟩⟩
      refine ⟨_, results_tmp rfl _ _ _, ?_, ?_⟩
      · rw [HF.out, ← HG.out, HR.out]; rfl
      · have h7 := L0.out.trans (L1.out.mono (by have := Z2.out; omega))
        exact (h7.trans (hB.mono (by have := HSs.out; omega))).trans (belowK_b (w := W0) (by have := HSs.out; omega) W D _ _ hD hK rfl rfl)
end Go.Proofs.YtcooapflofiolaaDoor.MS
