/- lay, over maps of integers. -/
import Derived.Test.YtcooapflofiolaaDoorMIFind
import Derived.Test.YtcooapflofiolaaDoorRoundT
import Derived.Test.YtcooapflofiolaaDoorGRef
import Derived.Sort.CutIn
namespace Go.Proofs.YtcooapflofiolaaDoor.MI
open Go Go.RowKit Go.Shelf
attribute [local go_sem] Oper.semAt_some
set_option linter.unusedVariables false
set_option linter.unusedSimpArgs false
set_option maxRecDepth 100000
set_option maxHeartbeats 4000000
theorem at_own (p : Pl) (k0 k1 : BitVec 64) (f : List Nat → Mp VT) : Own (fun pre W => At W p k0 k1 (f pre)) := by
  rintro pre W W' row h hg hr
  refine h.blocks fun j hj => hg.block j (h.lt hj) (fun e => ?_)
  obtain ⟨o, ho, hc⟩ := hr _ e.symm
  obtain ⟨C, h1, _⟩ := h.hw
  obtain ⟨D, h2, _⟩ := h.hs
  rcases hj with rfl | rfl | rfl
  · rw [h.hb] at ho; cases ho; cases hc
  · rw [h1] at ho; cases ho; cases hc
  · rw [h2] at ho; cases ho; cases hc
theorem kept_own {β : Type} {B : Nat} {S : Nat → Prop} {w0 : World} (hB : w0.heap.size ≤ B) : OwnFrom B (fun (_ : β) W => Kept S w0 W) := fun _ W W' row h hg hr =>
  ⟨hg.os.trans h.os, hg.tape.trans h.tape, hg.output.trans h.output, Nat.le_trans h.size hg.size, fun k hk hn => (hg.block k (Nat.lt_of_lt_of_le hk h.size) (fun e => by have := (hr k e.symm).1; omega)).trans (h.block k hk hn)⟩
theorem keeps_kept {B : Nat} {S : Nat → Prop} {W W' : World} (hS : ∀ k, S k → k < B) (h : Kept S W W') : KeepsFrom B W W' := ⟨h.size, fun k o hB hk _ => (h.block k (Array.getElem?_eq_some_iff.1 hk).1 (fun e => by have := hS k e; omega)).trans hk⟩
theorem lay_any (p : Pl) (k0 k1 : BitVec 64) (m : Mp VT) (key : ByteArray) (u : VT) (hks : key.size ≤ maxLen) (w : World) (h : At w p k0 k1 m) (I : MInv (hashN k0 k1) m) (hS : Sh w) (hS0 : ¬ p.own 0) :
    Calls Tryd.prog 93 #[.pointer (some ⟨p.b, 0, none⟩), .agg #[.string key, val u]] w fun e w' => e = .returned (.tuple #[]) ∧ At w' p k0 k1 (lay (hashN k0 k1) m (key, u)) ∧ Kept p.own w w' := by
  obtain ⟨w2, hw2⟩ : ∃ w2, w2 = (w.alloc (.cells #[.pointer (some ⟨p.b, 0, none⟩)] 78)).alloc (.cells #[.string key, val u] 135) := ⟨_, rfl⟩
  have L0 : Hid (Below w.heap.size w w2) := by rw [hw2]; exact ((Below.refl _ w).alloc (Nat.le_refl _) _).alloc (by simp) _
  have A0 := Lib.hid (h.below (Nat.le_refl _) L0.out)
  have hlt := h.lt (.inl rfl)
  have HLO : Hid (∀ j, p.own j → j < w.heap.size) := fun j hj => h.lt hj
  have Z2 : Hid (w2.heap.size = w.heap.size + 2) := by show _ = _; rw [hw2]; simp
  have SK : Hid (∀ W, Below w2.heap.size w2 W → W.cell? ⟨w.heap.size, 0, none⟩ = some (.pointer (some ⟨p.b, 0, none⟩)) ∧ W.cell? ⟨w.heap.size + 1, 0, none⟩ = some (.string key) ∧ W.cell? ⟨p.b, 0, none⟩ = some (.int .u64 (Sip.U k0)) ∧ W.cell? ⟨p.b, 1, none⟩ = some (.int .u64 (Sip.U k1)) ∧ W.cell? ⟨w.heap.size + 1, 1, none⟩ = some (val u)) := by
    show ∀ W, _
    intro W hW
    exact ⟨low_cell hW (Nat.le_refl _) (by rw [hw2]; simp), low_cell hW (Nat.le_refl _) (by rw [hw2]; simp), low_cell hW (Nat.le_refl _) A0.out.c0, low_cell hW (Nat.le_refl _) A0.out.c1, low_cell hW (Nat.le_refl _) (by rw [hw2]; simp)⟩
  have HI := Lib.hid I
  have HSH : Hid (Sh w2) := hS.below L0.out
  have HS0 := Lib.hid hS0
  obtain ⟨c, a, b, hc, ha, hb, he, hb1, hc1⟩ := hash_parts k0 k1 key
  have HS : Hid (∀ W, Calls Tryd.prog 99 #[.agg #[.int .u64 (Sip.U k0), .int .u64 (Sip.U k1)], .string key] W fun e w' => e = .returned (.int .u64 (c : Int)) ∧ Below W.heap.size W w') := fun W => sum_n k0 k1 key hks hc W
  have HP : Hid (∀ W, Calls Tryd.prog 98 #[.int .u64 (c : Int)] W fun e w' => e = .returned (.tuple #[.int .u64 (a : Int), .int .u8 (b : Int)]) ∧ W = w') := fun W => split_any c a b he hb1 hc1 W
  have HF : Hid (lay (hashN k0 k1) m (key, u) = layL m b (key, u) (grps a m.ws.length)) := by show _ = _; unfold lay; rw [ha, hb]
  have HA : Hid (a < 18446744073709551616 ∧ b < 128) := ⟨by omega, hb1⟩
  have HW2 := Lib.hid hw2
  clear h I hks hc ha hb he hb1 hc1 hw2 hS hS0
  refine (callsIn_wide (n := 4)).1 ?_
  refine callsIn_of_wp_marks Tryd.func93 rfl trivial ?_ rfl
  simp only [Tryd.ntmps93, List.size_toArray, List.length_cons, List.length_nil, Nat.reduceAdd, Nat.reduceSub, Array.replicate_succ, Array.replicate_zero, List.push_toArray, List.append_toArray, List.nil_append, List.cons_append]
  refine wpIn_wide.2 ?_
  go_upto_region 1 with fail
  rw [← HW2.out]
  go_cut [4, 5] from 9 to 19 (fun hv bp wx => hv = .int .u64 (a : Int) ∧ ∃ B, bp = .pointer (some ⟨B, 0, none⟩) ∧ w2.heap.size ≤ B ∧ wx.heap[B]? = some (.cells #[.int .u8 (b : Int)] 5 (0, 0)) ∧ Below w2.heap.size w2 wx)
  case first =>
    have Lx : Hid (Below w2.heap.size w2 w2.drew) := (Below.refl _ _).drew
    have Ly : Hid (Below w2.heap.size w2 (w2.alloc (.cells #[.int .u8 0] 5)).drew) := ((Below.refl _ _).alloc (Nat.le_refl _) _).drew
    go_region_held3 (fun W => W.cell? ⟨w.heap.size, 0, none⟩ = some (.pointer (some ⟨p.b, 0, none⟩)) ∧ W.cell? ⟨w.heap.size + 1, 0, none⟩ = some (.string key) ∧ W.cell? ⟨p.b, 0, none⟩ = some (.int .u64 (Sip.U k0)) ∧ W.cell? ⟨p.b, 1, none⟩ = some (.int .u64 (Sip.U k1)) ∧ W.cell? ⟨w.heap.size + 1, 1, none⟩ = some (val u))
      (first | exact SK.out _ HB3.out | exact SK.out _ (HB3.out.alloc HB3.out.size _) | exact SK.out _ Lx.out | exact SK.out _ Ly.out | exact SK.out _ (HB3.out.setCell (p := ⟨w2.heap.size, 0, none⟩) (Nat.le_refl _) _))
      (first
        | (go_at_call 99; refine (HS.out _).mono ?_; rintro e w3 ⟨rfl, hb3⟩; have HB3 : Hid (Below w2.heap.size w2 w3) := (by first | exact Lx.out.trans hb3 | exact Ly.out.trans (hb3.mono Ly.out.size)); first | (have x1 : w3.cell? ⟨w2.heap.size, 0, none⟩ = some (.int .u8 0) := low_cell hb3 (Nat.le_refl _) (by simp); have f1 : w3.frozen? ⟨w2.heap.size, 0, none⟩ = false := (hb3.frozen (p := ⟨w2.heap.size, 0, none⟩) (by simp)).trans (by simp); have X1 : Hid (w3.heap[w2.heap.size]? = some (.cells #[.int .u8 0] 5 (0, 0))) := (hb3.block w2.heap.size (by simp)).trans (heap_alloc_new w2 _)) | have X0 := trivial; clear hb3)
        | (go_at_call 98; refine (HP.out _).mono ?_; rintro e w' ⟨rfl, rfl⟩))
    all_goals (go_wp2_with fail; go_meet; first | exact ⟨rfl, w3.heap.size, rfl, HB3.out.size, heap_alloc_new _ _, HB3.out.alloc HB3.out.size _⟩ | exact ⟨rfl, w2.heap.size, rfl, Nat.le_refl _, (heap_setCell_same _ _ _ _ _ _ X1.out).trans rfl, HB3.out.setCell (p := ⟨w2.heap.size, 0, none⟩) (Nat.le_refl _) _⟩)
  case rest =>
    obtain ⟨rfl, B, rfl, hBB, hBx, hb⟩ := hcut
    have z0 := (SK.out _ hb).1
    have A1 := Lib.hid (A0.out.below (Nat.le_refl _) hb)
    have c2 := A1.out.c2
    have HBX := Lib.hid hBx
    have L1 := Lib.hid hb
    have hBl : B < wc.heap.size := (Array.getElem?_eq_some_iff.1 hBx).1
    have hpb := A1.out.lt (.inl rfl)
    clear hBx hb
    have hsw : w.heap.size < wc.heap.size := cell_lt z0
    go_wp2_with (go_at_call 100; refine (seq_any _ _ _).mono ?_; rintro e w' ⟨rfl, rfl⟩)
    refine (wpIn_wide (n := 4)).1 ?_
    have hgl := HI.out.len
    have HGD := Lib.hid HI.out.gd
    have HAL := HA.out.1
    obtain ⟨g, hg⟩ : ∃ g, g = m.ws.length := ⟨_, rfl⟩
    rw [← hg] at hgl HGD c2 ⊢
    obtain ⟨s, hs⟩ : ∃ s, s = wc.heap.size := ⟨_, rfl⟩
    rw [← hs]
    obtain ⟨W0, hW0⟩ : ∃ W0, (wc.alloc (Obj.cells #[Value.int IntKind.u64 a] 22)).alloc (Obj.cells #[Value.int IntKind.i64 g] 3) = W0 := ⟨_, rfl⟩
    have hz : W0.heap.size = s + 2 := by rw [← hW0]; simp [hs]
    have bH : W0.heap[s]? = some (.cells #[.int .u64 a] 22 (0, 0)) := by
      rw [← hW0, hs]; exact (Boxed.new wc 22 _).alloc _
    have bG : W0.heap[s + 1]? = some (.cells #[.int .i64 g] 3 (0, 0)) := by
      rw [← hW0]; have := Boxed.new (wc.alloc (Obj.cells #[Value.int IntKind.u64 a] 22)) 3 (.int .i64 g); simpa [hs, Boxed] using this
    have hB0 : Below s wc W0 := by
      rw [← hW0, hs]; exact ((Below.refl _ wc).alloc (Nat.le_refl _) _).alloc (by simp) _
    rw [hW0]
    have HSs := Lib.hid hs
    have HG := Lib.hid hg
    have HB0 := Lib.hid hB0
    clear hs hW0 hg hB0
    refine wpIn_rangeFunc_ownG (n := 4) rfl (by omega) (gf := 115) (lb := #[.pointer (some ⟨s + 1, 0, none⟩), .pointer (some ⟨s, 0, none⟩)]) rfl trivial (enters_of Tryd.func115 (by kernel_rfl) rfl)
      (seqk_stops 3 (by omega) (s + 1) s a g HAL HGD.out W0 bG bH) Kp.t (Kp.b (by omega) (by omega)) (Below.refl _ _) (fun _ => rfl)
      (fun pre W => (∀ rest, layL m b (key, u) (pre.map (el a g) ++ rest) = layL m b (key, u) rest) ∧ Below W0.heap.size W0 W)
      (fun c pre W => At W p k0 k1 (layL m b (key, u) (pre.map (el a g))) ∧ (c = .ret ∧ ∀ rest, layL m b (key, u) (pre.map (el a g) ++ rest) = layL m b (key, u) (pre.map (el a g))) ∧ Kept p.own wc W)
      (OwnFrom.and (ownFrom_pure _ (fun pre : List Nat => ∀ rest, layL m b (key, u) (pre.map (el a g) ++ rest) = layL m b (key, u) rest)) (ownFrom_below (Nat.le_refl _) (Nat.le_refl _)))
      (fun c => OwnFrom.and (Own.from (at_own p k0 k1 (fun pre : List Nat => layL m b (key, u) (pre.map (el a g)))) _)
        (OwnFrom.and (ownFrom_pure _ (fun pre : List Nat => c = .ret ∧ ∀ rest, layL m b (key, u) (pre.map (el a g) ++ rest) = layL m b (key, u) (pre.map (el a g)))) (kept_own (by have := HSs.out; omega))))
      ⟨fun rest => rfl, Below.refl _ _⟩
      (fun x => { tmps := List.toArray (Value.pointer (some ⟨p.b, 0, none⟩) :: Value.agg #[.string key, val u] :: Value.pointer (some ⟨w.heap.size, 0, none⟩) :: Value.pointer (some ⟨w.heap.size + 1, 0, none⟩) :: Value.int .u64 a :: Value.pointer (some ⟨B, 0, none⟩) :: .int .i64 (el a g x : Nat) :: undef :: undef :: u9 :: u10 :: u11 :: u12 :: u13 :: u14 :: u15 :: u16 :: u17 :: u18 :: u19 :: Value.int .u64 a :: Value.pointer (some ⟨p.b, 0, none⟩) :: Value.pointer (some ⟨p.b, 0, none⟩) :: Value.pointer (some ⟨p.b, 2, none⟩) :: Value.slice (some ⟨p.bw, 0, none⟩) g p.cw :: Value.int .i64 g :: Value.func (Fn.func 115) #[] #[Value.pointer (some ⟨s + 1, 0, none⟩), Value.pointer (some ⟨s, 0, none⟩)] :: .int .i64 (el a g x : Nat) :: undef :: undef :: undef :: undef :: undef :: undef :: undef :: undef :: undef :: undef :: undef :: undef :: undef :: undef :: undef :: undef :: undef :: undef :: undef :: undef :: undef :: undef :: undef :: undef :: undef :: undef :: undef :: undef :: undef :: undef :: undef :: undef :: undef :: undef :: undef :: undef :: undef :: undef :: undef :: undef :: undef :: undef :: undef :: undef :: undef :: undef :: undef :: undef :: undef :: undef :: undef :: undef :: undef :: undef :: undef :: undef :: undef :: undef :: undef :: undef :: undef :: undef :: []), defers := [] }) ?assign ?body ?done ?stop
    case assign =>
      intro l x W K hK
      gi_wp2
      exact hK
    case body =>
      rintro l pre x W ⟨hne, hB⟩ hlt
      have HNE := Lib.hid hne
      have HB := Lib.hid hB
      have hl := HB0.out.trans (hB.mono (by omega))
      have LW : Hid (Below w2.heap.size w2 W) := L1.out.trans (hl.mono (by have := L1.out.size; have := HSs.out; omega))
      obtain ⟨y0, y1, _, _, y1'⟩ := SK.out _ LW.out
      have y6 := low_cell hl (Nat.le_of_eq HSs.out.symm) (show wc.cell? ⟨B, 0, none⟩ = some (.int .u8 (b : Int)) by simp [World.cell?, HBX.out])
      have AW : Hid (At W p k0 k1 m) := A1.out.below (k := s) (Nat.le_of_eq HSs.out.symm) hl
      have SW : Hid (Sh W) := HSH.out.below LW.out
      have y2 := AW.out.c2
      rw [← HG.out] at y2
      obtain ⟨e, he⟩ : ∃ e, e = el a g x := ⟨_, rfl⟩
      rw [← he]
      have heg : e < g := by rw [he]; exact el_lt _ _ _ (by omega)
      have yw := AW.out.wc (j := e) (by rw [← HG.out]; exact heg)
      have hv := HI.out.wl e
      obtain ⟨v, hvv⟩ : ∃ v, v = m.w e := ⟨_, rfl⟩
      rw [← hvv] at yw hv
      have HV := Lib.hid hv
      have HVV := Lib.hid hvv
      have HE := Lib.hid he
      have hbl : b < 256 := by have := HA.out.2; omega
      have HBl := Lib.hid hbl
      have heg' : (e : Int) < (g : Int) := by omega
      have hfn1 : Fence.wide.fn 104 := trivial
      have hfn2 : Fence.wide.fn 103 := trivial
      have hfn3 : Fence.wide.fn 105 := trivial
      have hfn4 : Fence.wide.fn 68 := trivial
      have hn2 : 1 ≤ 4 - 1 - 1 := by omega
      have mx : Tryd.prog.follows .mixedOrders = true := by kernel_rfl
      have HBW : Hid (Below W0.heap.size W0 W) := hB
      have HL := Lib.hid hl
      have hsW : s + 2 ≤ W.heap.size := by have := hB.size; omega
      have HST : Hid (∀ rest, layL m b (key, u) ((pre ++ [x]).map (el a g) ++ rest) = layL m b (key, u) (e :: rest)) := by
        show ∀ rest, _
        intro rest
        rw [List.map_append, List.append_assoc, HNE.out, he]; rfl
      have HM : Hid (∀ W, CallsIn (Fence.wide.inRound l) 1 Tryd.prog 104 #[.int .u64 (v : Int)] W (fun e w' => e = .returned (.int .u8 (fre v : Nat)) ∧ W = w')) := fun W => CallsIn.inRound l ((callsIn_wide (n := 1)).2 ((free_any v HV.out W).mono fun _ _ ⟨h1, h2⟩ => ⟨h1, h2⟩))
      clear hne hB bH bG hv hvv he hbl z0 c2 hl HB
      obtain ⟨n, hn⟩ : ∃ n, n = fre v := ⟨_, rfl⟩
      have hn2' : n < 256 := by rw [hn]; exact fre_lt v
      rw [← hn] at HM
      have HN := Lib.hid hn
      clear hn
      by_cases h0 : n = 0
      · have hd0 : ((n : Int) == 0) = true := by simpa using h0
        have hd1 : ((n : Int) != 0) = false := by simpa using h0
        have H0 := Lib.hid h0
        clear h0
        gi_wp2_with (gi_at_call 104; (with_reducible refine (HM.out _).mono ?_); rintro e w' ⟨rfl, rfl⟩)
        have hq0 : freeAt m e = none := by
          unfold freeAt
          refine find8_none fun i hi => ?_
          have := bit_fre v i hi
          rw [← HN.out, H0.out] at this
          rw [← HVV.out, ← this]; simp
        refine ⟨KeepsFrom.refl _ _, Kp.refl _ _ _, fun rest => by rw [HST.out, layL, hq0], HBW.out⟩
      · have hd0 : ((n : Int) == 0) = false := by simpa using h0
        have hd1 : ((n : Int) != 0) = true := by simpa using h0
        have hf := first_lt hn2' h0
        have HF1 := Lib.hid (first_bit hn2' h0)
        have HLE : Hid (∀ i, i < 8 → n.testBit i = true → firstF n ≤ i) := fun i hi h => first_le hn2' hi h
        have HC1 : Hid (∀ W, CallsIn (Fence.wide.inRound l) 1 Tryd.prog 103 #[.int .u8 (n : Int)] W (fun e w' => e = .returned (.int .i64 (firstF n : Nat)) ∧ W = w')) := fun W => CallsIn.inRound l ((callsIn_wide (n := 1)).2 ((first_any n hn2' W).mono fun _ _ ⟨h1, h2⟩ => ⟨h1, h2⟩))
        clear h0
        obtain ⟨q, hq⟩ : ∃ q, q = firstF n := ⟨_, rfl⟩
        rw [← hq] at hf HF1 HLE HC1
        have HQ := Lib.hid hq
        clear hq
        have HC2 : Hid (∀ W, Sh W → CallsIn (Fence.wide.inRound l) 1 Tryd.prog 105 #[.int .u64 (v : Int), .int .i64 (q : Int)] W (fun e w' => e = .returned (.int .u8 (gt v q : Nat)) ∧ W = w')) := fun W hW => CallsIn.inRound l ((callsIn_wide (n := 1)).2 ((get_any v (q : Int) HV.out W hW).mono fun _ _ ⟨h1, h2⟩ => ⟨by rw [h1, ix_nat hf], h2⟩))
        have HC3 : Hid (∀ W, Sh W → CallsIn (Fence.wide.inRound l) 1 Tryd.prog 68 #[.int .u64 (v : Int), .int .i64 (q : Int), .int .u8 (b : Int)] W (fun e w' => e = .returned (.int .u64 (st v q b : Nat)) ∧ w' = W)) := fun W hW => CallsIn.inRound l ((callsIn_wide (n := 1)).2 ((set_any v b (q : Int) HV.out HBl.out W hW).mono fun _ _ ⟨h1, h2⟩ => ⟨by rw [h1, ix_nat hf], h2.symm⟩))
        gi_upto_if 49 with (first | (gi_at_call 104; (with_reducible refine (HM.out _).mono ?_); rintro e w' ⟨rfl, rfl⟩) | (gi_at_call 103; (with_reducible refine (HC1.out _).mono ?_); rintro e w' ⟨rfl, rfl⟩) | (gi_at_call 105; (with_reducible refine (HC2.out _ SW.out).mono ?_); rintro e w' ⟨rfl, rfl⟩))
        have hlo : ∀ j, p.own j → j < w.heap.size := fun j hj => HLO.out j hj
        have HT : Hid (∃ t : Nat, t = if m.c (8 * e + q) = 254 then m.tb - 1 else m.tb) := ⟨_, rfl⟩
        obtain ⟨t, ht⟩ := HT.out
        have hcq : m.c (8 * e + q) = gt v q := by rw [c_at m e hf, HVV.out]
        rw [hcq] at ht
        have hcz : gt v q = 254 → 0 < m.tb := fun h => by
          have h1 := HI.out.ctb
          have := cnt_set (p := fun i => m.c i == 254) (q := fun i => if i = 8 * e + q then false else m.c i == 254) (i := 8 * e + q) (n := 8 * m.ws.length) (by have := HG.out; omega) (fun j hj hne => by simp [hne])
          rw [h1]; simp [hcq, h] at this; omega
        have HT' := Lib.hid ht
        have HCZ := Lib.hid hcz
        have htb : m.tb ≤ 7168 := by have := HI.out.ld; have := HI.out.len; omega
        clear ht hcz hcq HT hlo
        gi_cut [] from 49 (fun wx => At wx p k0 k1 { m with tb := t } ∧ Kept p.own W wx)
        case first =>
          have c5 := AW.out.c5
          have f5 := AW.out.fz 5
          by_cases h254 : gt v q = 254
          · have hd2 : (((gt v q : Nat) : Int) == 254) = true := by rw [h254]; rfl
            have hp := HCZ.out h254
            have hw1 : (m.tb : Int) - 1 = ((m.tb - 1 : Nat) : Int) := by omega
            have ht : t = m.tb - 1 := by rw [HT'.out, if_pos h254]
            have HT2 := Lib.hid ht
            have HW1 := Lib.hid hw1
            clear h254 ht hw1
            rw [hd2]
            gi_wp2
            gi_meet
            rw [HW1.out]
            exact ⟨by rw [HT2.out]; exact AW.out.setT _, (Kept.refl _ _).setCell (p := ⟨p.b, 5, none⟩) (.inl (.inl rfl)) _⟩
          · have hd2 : (((gt v q : Nat) : Int) == 254) = false := by simp; omega
            have ht : t = m.tb := by rw [HT'.out, if_neg h254]
            have HT2 := Lib.hid ht
            clear h254 ht
            rw [hd2]
            gi_wp2
            gi_meet
            exact ⟨by rw [HT2.out]; exact AW.out, Kept.refl _ _⟩
        case rest =>
          obtain ⟨hA3, hK3⟩ := hcut
          have A3 := Lib.hid hA3
          have K3 := Lib.hid hK3
          have nb : ∀ j, w.heap.size ≤ j → ¬ p.own j := fun j hj e => by have := HLO.out j e; omega
          have z0 := kept_cell hK3 y0 (nb _ (Nat.le_refl _))
          have z1 := kept_cell hK3 y1 (nb _ (Nat.le_succ _))
          have z1' := kept_cell hK3 y1' (nb _ (Nat.le_succ _))
          have z6 := kept_cell hK3 y6 (nb B (by have := Z2.out; omega))
          have z2 := hA3.c2
          have z3 := hA3.c3
          have z4 := hA3.c4
          have zw := hA3.wc (j := e) (by rw [← HG.out]; exact heg)
          have fw := hA3.wf e
          have SX : Hid (Sh wc) := fun j hj => kept_cell hK3 (SW.out j hj) HS0.out
          dsimp only at z2 z3 z4 zw
          rw [← HG.out] at z2 z3
          rw [show Mp.w { m with tb := t } e = v from HVV.out.symm] at zw
          have HC4 : Hid (∀ k, CallsIn (Fence.wide.inRound l) 1 Tryd.prog 68 #[.int .u64 (v : Int), .int .i64 (q : Int), .int .u8 (b : Int)] (wc.drewN k) (fun e w' => e = .returned (.int .u64 (st v q b : Nat)) ∧ w' = wc.drewN k)) := fun k => HC3.out _ SX.out
          clear nb hA3 hK3 y6 y2 yw
          gi_wp2
          refine region_tail_r 16 (by kernel_rfl) (by kernel_rfl) (by kernel_rfl) ?_
          simp only [List.take_succ_cons, List.take_zero, List.drop_succ_cons, List.drop_zero]
          repeat (gi_big_quiet_step ((gi_at_call 68; exact CallsIn.quiet_of_same (HC4.out _))))
          refine wpQuietIn_nil ?_
          intro _ hw'
          obtain ⟨nq, rfl⟩ := hw'
          have K4 : Hid (Kept p.own W ((wc.drewN nq).setCell ⟨p.bw, e, none⟩ (.int .u64 (st v q b : Nat)))) := Kept.setCell (w := wc.drewN nq) ⟨K3.out.os, K3.out.tape, K3.out.output, K3.out.size, K3.out.block⟩ (p := ⟨p.bw, e, none⟩) (.inl (.inr (.inl rfl))) _
          have A4 : Hid (At ((wc.drewN nq).setCell ⟨p.bw, e, none⟩ (.int .u64 (st v q b : Nat))) p k0 k1 { m with tb := t, ws := m.ws.set e (st v q b) }) := MA.setW (w := wc.drewN nq) (A3.out.blocks (fun j hj => rfl)) (show e < m.ws.length by rw [← HG.out]; exact heg)
          gi_upto_region 10 with fail
          generalize (wc.drewN nq).setCell ⟨p.bw, e, none⟩ (.int .u64 (st v q b : Nat)) = X1 at *
          have nb : ∀ j, w.heap.size ≤ j → ¬ p.own j := fun j hj e => by have := HLO.out j e; omega
          have z0 := kept_cell K4.out y0 (nb _ (Nat.le_refl _))
          have z1 := kept_cell K4.out y1 (nb _ (Nat.le_succ _))
          have z1' := kept_cell K4.out y1' (nb _ (Nat.le_succ _))
          have z3 := A4.out.c3
          have f3 := A4.out.sf
          dsimp only at z3
          rw [List.length_set, ← HG.out] at z3
          obtain ⟨ii, hii⟩ : ∃ ii : Nat, ii = 8 * e + q := ⟨_, rfl⟩
          have hiq : ii < 8 * g := by omega
          have hiq2 : (ii : Int) < 8 * (g : Int) := by omega
          have hw1 : IntKind.i64.wrap (8 * (e : Int)) = 8 * (e : Int) := IntWalk.i64_in _ (by omega)
          have hw2 : IntKind.i64.wrap (8 * (e : Int) + (q : Int)) = (ii : Int) := by rw [IntWalk.i64_in _ (by omega)]; omega
          have f30 := f3 (ii * 2)
          have f31 := f3 (ii * 2 + 1)
          have HII := Lib.hid hii
          have sk := A4.out.sk (i := ii) (by show ii < 8 * (m.ws.set e (st v q b)).length; rw [List.length_set, ← HG.out]; exact hiq)
          have sv := A4.out.sv (i := ii) (by show ii < 8 * (m.ws.set e (st v q b)).length; rw [List.length_set, ← HG.out]; exact hiq)
          clear nb f3 hii
          refine region_tail_r 10 (by kernel_rfl) (by kernel_rfl) (by kernel_rfl) ?_
          simp only [List.take_succ_cons, List.take_zero, List.drop_succ_cons, List.drop_zero]
          repeat (gi_big_quiet_step (fail))
          refine wpQuietIn_nil ?_
          intro _ hw'
          obtain ⟨nq2, rfl⟩ := hw'
          have A5 : Hid (At (((X1.drewN nq2).setCell ⟨p.bs, ii * 2, none⟩ (.string key)).setCell ⟨p.bs, ii * 2 + 1, none⟩ (val u)) p k0 k1 { m with tb := t, ws := m.ws.set e (st v q b), ss := m.ss.set ii (key, u) }) :=
            MA.setS (w := X1.drewN nq2) (A4.out.blocks (fun j hj => rfl)) (by show ii < 8 * (m.ws.set e (st v q b)).length; rw [List.length_set, ← HG.out]; exact hiq) (by show m.ss.length = 8 * (m.ws.set e (st v q b)).length; rw [List.length_set]; exact HI.out.sl) (key, u)
          have K5 : Hid (Kept p.own W (((X1.drewN nq2).setCell ⟨p.bs, ii * 2, none⟩ (.string key)).setCell ⟨p.bs, ii * 2 + 1, none⟩ (val u))) :=
            Kept.setCell (Kept.setCell (w := X1.drewN nq2) ⟨K4.out.os, K4.out.tape, K4.out.output, K4.out.size, K4.out.block⟩ (p := ⟨p.bs, ii * 2, none⟩) (.inl (.inr (.inr rfl))) _) (p := ⟨p.bs, ii * 2 + 1, none⟩) (.inl (.inr (.inr rfl))) _
          gi_upto_region 11 with fail
          generalize ((X1.drewN nq2).setCell ⟨p.bs, ii * 2, none⟩ (.string key)).setCell ⟨p.bs, ii * 2 + 1, none⟩ (val u) = X2 at *
          have nb : ∀ j, w.heap.size ≤ j → ¬ p.own j := fun j hj e => by have := HLO.out j e; omega
          have z0 := kept_cell K5.out y0 (nb _ (Nat.le_refl _))
          have z4 := A5.out.c4
          have f4 := A5.out.fz 4
          dsimp only at z4
          have hnx : (m.n : Int) + 1 = ((m.n + 1 : Nat) : Int) := by omega
          have hmx := HI.out.mx
          have HNX := Lib.hid hnx
          clear nb hnx
          gi_wp2
          rw [HNX.out]
          have hq0 : freeAt m e = some q := by
            unfold freeAt
            refine find8_some hf ?_ fun i hi => ?_
            · have := bit_fre v q hf
              rw [← HN.out, HF1.out] at this
              rw [← HVV.out]; exact this.symm
            · have h1 : n.testBit i = false := by
                cases hb : n.testBit i with
                | false => rfl
                | true => have := HLE.out i (by omega) hb; omega
              have := bit_fre v i (by omega)
              rw [← HN.out, h1] at this
              rw [← HVV.out]; exact this.symm
          have hr : ∀ rest, layL m b (key, u) ((pre ++ [x]).map (el a g) ++ rest) = { m with tb := t, ws := m.ws.set e (st v q b), ss := m.ss.set ii (key, u), n := m.n + 1 } := fun rest => by
            rw [HST.out, layL, hq0]
            simp only [putAt]
            rw [← HVV.out, ← HT'.out, HII.out]
          have hr0 := hr []
          rw [List.append_nil] at hr0
          have K6 := K5.out.setCell (p := ⟨p.b, 4, none⟩) (.inl (.inl rfl)) (.int .i64 ((m.n + 1 : Nat) : Int))
          refine ⟨?_, by rw [hr0]; exact A5.out.setN _, ⟨rfl, fun rest => by rw [hr, hr0]⟩, ((Kept.of HL.out (Nat.le_of_eq HSs.out.symm)).join K6 (fun _ h => h) (fun _ _ h => h))⟩
          exact keeps_kept (fun k hk => by have := HLO.out k hk; have := Z2.out; have := L1.out.size; have := HSs.out; omega) K6
    case done =>
      rintro D ys W hD hys ⟨hne, hB⟩ hK
      subst hys
      have hr : layL m b (key, u) (grps a g) = m := by
        have := hne []
        rw [List.append_nil] at this
        exact this
      have HR := Lib.hid hr
      clear hne hr
      have hl := HB0.out.trans (hB.mono (by omega))
      have HAW : Hid (At W p k0 k1 m) := A1.out.below (k := s) (Nat.le_of_eq HSs.out.symm) hl
      have LW : Hid (Below w2.heap.size w2 W) := L1.out.trans (hl.mono (by have := L1.out.size; have := HSs.out; omega))
      have HKW : Hid (Kept p.own w W) := Kept.of (L0.out.trans (LW.out.mono (by have := Z2.out; omega))) (Nat.le_refl _)
      go_wp2
      refine ⟨by simp, .inl ⟨_, _, rfl, run_takeDeferred hK, ?_⟩⟩
      refine ⟨_, results_none rfl _ _ _, rfl, ?_, ?_⟩
      · rw [HF.out, ← HG.out, HR.out]
        exact HAW.out.blocks fun j hj => (belowK_b (w := W0) (Nat.le_refl _) W D _ _ hD hK rfl rfl).block j (by have := HLO.out j hj; have := Z2.out; have := L1.out.size; have := HSs.out; omega)
      · exact HKW.out.bl (belowK_b (w := W0) (Nat.le_refl _) W D _ _ hD hK rfl rfl) (by have := Z2.out; have := L1.out.size; have := HSs.out; omega)
    case stop =>
      rintro D c pre W hD hpre ⟨hA, ⟨rfl, hst⟩, hB⟩ hK
      have hr : layL m b (key, u) (grps a g) = layL m b (key, u) (pre.map (el a g)) := by
        obtain ⟨r, hr⟩ := hpre
        have := hst (r.map (el a g))
        rw [← List.map_append, hr] at this
        exact this
      have HR := Lib.hid hr
      clear hst hr hpre
      have HAW := Lib.hid hA
      have HKW : Hid (Kept p.own w W) := (Kept.of (L0.out.trans (L1.out.mono (by have := Z2.out; omega))) (Nat.le_refl _)).join hB (fun _ h => h) (fun _ _ h => h)
      clear hA hB
      gi_wp2
      refine ⟨by simp, .inl ⟨_, _, rfl, run_takeDeferred hK, ?_⟩⟩
      refine ⟨_, results_none rfl _ _ _, rfl, ?_, ?_⟩
      · rw [HF.out, ← HG.out, HR.out]
        exact HAW.out.blocks fun j hj => (belowK_b (w := W0) (Nat.le_refl _) W D _ _ hD hK rfl rfl).block j (by have := HLO.out j hj; have := Z2.out; have := L1.out.size; have := HSs.out; omega)
      · exact HKW.out.bl (belowK_b (w := W0) (Nat.le_refl _) W D _ _ hD hK rfl rfl) (by have := Z2.out; have := L1.out.size; have := HSs.out; omega)
end Go.Proofs.YtcooapflofiolaaDoor.MI
