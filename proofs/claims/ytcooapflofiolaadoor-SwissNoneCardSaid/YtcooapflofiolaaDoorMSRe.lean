/- rehash, over maps of texts. -/
import Derived.Test.YtcooapflofiolaaDoorMSDup
import Derived.Test.YtcooapflofiolaaDoorMSLay
namespace Go.Proofs.YtcooapflofiolaaDoor
open Go Go.RowKit
section
variable {V : Type} [Inhabited V]
/-- The empty map behind some of the keys. -/
def partM (H : ByteArray → Nat) (m : Mp V) (k : Nat) : Mp V := ((fullL m).take k).foldl (lay H) (empty (reG m))
theorem part_inv {H : ByteArray → Nat} {m : Mp V} (I : MInv H m) (hf : 7 * m.ws.length ≤ m.n + m.tb) (hn : m.n < 2000) (k : Nat) (hk : k ≤ m.n) : MInv H (partM H m k) := by
  obtain ⟨h1, h2, h3⟩ := reG_good I hf hn
  have hl : (empty (reG m) : Mp V).ws.length = reG m := List.length_replicate
  have hfl := full_len I
  have htl : ((fullL m).take k).length = k := by rw [List.length_take, hfl]; omega
  exact (lays_inv (H := H) (l := (fullL m).take k) (empty_inv h1) ((full_pair I).sublist (List.take_sublist _ _)) (fun s _ v => has_empty_not _ _ _) rfl (by rw [hl, htl]; show 0 + k ≤ _; omega) (by rw [htl]; show 0 + k ≤ _; omega)).1
theorem part_zero (H : ByteArray → Nat) (m : Mp V) : partM H m 0 = empty (reG m) := rfl
theorem part_succ {H : ByteArray → Nat} {m : Mp V} (I : MInv H m) {k : Nat} (hk : k < m.n) : partM H m (k + 1) = lay H (partM H m k) ((fullL m).getD k default) := by
  have hlt : k < (fullL m).length := by rw [full_len I]; exact hk
  unfold partM
  rw [List.take_succ_eq_append_getElem hlt, List.foldl_append, List.getD_eq_getElem?_getD, List.getElem?_eq_getElem hlt]; rfl
theorem part_all {H : ByteArray → Nat} {m : Mp V} (I : MInv H m) : partM H m m.n = rehash H m := by
  unfold partM rehash
  rw [← full_len I, List.take_length]
/-- Six cells stored one behind the other. -/
def set6 (w : World) (b : Nat) (y0 y1 y2 y3 y4 y5 : Value) : World := (((((w.setCell ⟨b, 0, none⟩ y0).setCell ⟨b, 1, none⟩ y1).setCell ⟨b, 2, none⟩ y2).setCell ⟨b, 3, none⟩ y3).setCell ⟨b, 4, none⟩ y4).setCell ⟨b, 5, none⟩ y5
theorem set6_same {w : World} {b : Nat} {x0 x1 x2 x3 x4 x5 : Value} {t : TypeId} (h : w.heap[b]? = some (.cells #[x0, x1, x2, x3, x4, x5] t (0, 0))) (y0 y1 y2 y3 y4 y5 : Value) :
    (set6 w b y0 y1 y2 y3 y4 y5).heap[b]? = some (.cells #[y0, y1, y2, y3, y4, y5] t (0, 0)) :=
  heap_setCell_same _ b 5 _ t y5 (heap_setCell_same _ b 4 _ t y4 (heap_setCell_same _ b 3 _ t y3 (heap_setCell_same _ b 2 _ t y2 (heap_setCell_same _ b 1 _ t y1 (heap_setCell_same w b 0 _ t y0 h)))))
theorem set6_other {w : World} {b k : Nat} (h : k ≠ b) (y0 y1 y2 y3 y4 y5 : Value) : (set6 w b y0 y1 y2 y3 y4 y5).heap[k]? = w.heap[k]? := by
  unfold set6
  rw [heap_setCell_other _ _ _ _ h, heap_setCell_other _ _ _ _ h, heap_setCell_other _ _ _ _ h, heap_setCell_other _ _ _ _ h, heap_setCell_other _ _ _ _ h, heap_setCell_other _ _ _ _ h]
theorem set6_kept {S : Nat → Prop} {a w : World} {b : Nat} (h : Kept S a w) (hb : S b) (y0 y1 y2 y3 y4 y5 : Value) : Kept S a (set6 w b y0 y1 y2 y3 y4 y5) :=
  (((((h.setCell (p := ⟨b, 0, none⟩) (.inl hb) _).setCell (p := ⟨b, 1, none⟩) (.inl hb) _).setCell (p := ⟨b, 2, none⟩) (.inl hb) _).setCell (p := ⟨b, 3, none⟩) (.inl hb) _).setCell (p := ⟨b, 4, none⟩) (.inl hb) _).setCell (p := ⟨b, 5, none⟩) (.inl hb) _
/-- Keys are no longer than texts may be. -/
def MKeys (m : Mp V) : Prop := ∀ k v, Has m k v → k.size ≤ maxLen
theorem MKeys.full {m : Mp V} (h : MKeys m) {k : Nat} (hk : k < (fullL m).length) : ((fullL m).getD k default).1.size ≤ maxLen := by
  have hm : (fullL m).getD k default ∈ fullL m := by rw [List.getD_eq_getElem?_getD, List.getElem?_eq_getElem hk]; simp
  exact h _ ((fullL m).getD k default).2 (mem_full.1 hm)
end
end Go.Proofs.YtcooapflofiolaaDoor
namespace Go.Proofs.YtcooapflofiolaaDoor.MS
open Go Go.RowKit Go.Shelf
set_option linter.unusedVariables false
set_option linter.unusedSimpArgs false
set_option maxRecDepth 100000
set_option maxHeartbeats 4000000
theorem sh_pos {w : World} (h : Sh w) : 0 < w.heap.size := cell_lt (h 0 (by decide))
theorem rehash_any (p : Pl) (k0 k1 : BitVec 64) (m : Mp VT) (w : World) (h : At w p k0 k1 m) (I : MInv (hashN k0 k1) m) (hks : MKeys m) (hf : 7 * m.ws.length ≤ m.n + m.tb) (hn : m.n < 2000) (hS : Sh w) (hS0 : ¬ p.own 0) :
    Calls Tryd.prog 69 #[.pointer (some ⟨p.b, 0, none⟩)] w fun e w' => e = .returned (.tuple #[]) ∧ (∃ q : Pl, q.b = p.b ∧ At w' q k0 k1 (rehash (hashN k0 k1) m) ∧ (∀ j, q.own j → j = p.b ∨ w.heap.size ≤ j)) ∧ Kept (· = p.b) w w' := by
  have HA := Lib.hid h
  have HI := Lib.hid I
  have HKS := Lib.hid hks
  have HF := Lib.hid hf
  have HSh := Lib.hid hS
  have hl := I.len
  obtain ⟨hg1, hg2, hg3⟩ := reG_good I hf hn
  have hgb := goodB_bounds hg1
  have htb : m.tb ≤ 7168 := by have := I.ld; omega
  obtain ⟨G, hG⟩ : ∃ G, G = reG m := ⟨_, rfl⟩
  rw [← hG] at hgb
  have HG := Lib.hid hG
  obtain ⟨g, hgg⟩ : ∃ g, g = m.ws.length := ⟨_, rfl⟩
  have c0 := h.c0
  have c1 := h.c1
  have c2 := h.c2
  have c4 := h.c4
  have c5 := h.c5
  rw [← hgg] at hl c2
  have HGG := Lib.hid hgg
  have HMN := Lib.hid (made_new k0 k1 G (by omega) (by omega) w)
  have hpb := h.lt (.inl rfl)
  have HFL := Lib.hid (full_len I)
  clear h I hks hf hS hG hgg hg1 hg2 hg3
  go_enter Tryd.func69, Tryd.ntmps69
  go_upto_region 1 with fail
  obtain ⟨c, hc⟩ : ∃ c, c = decide (m.tb = 0 ∨ 7 * g < 2 * m.n) := ⟨_, rfl⟩
  have hG2 : (if c then (g : Int) * 2 else (g : Int)) = (G : Int) := by
    have := HG.out
    unfold reG at this
    rw [← HGG.out] at this
    rw [this, hc]
    by_cases h : m.tb = 0 ∨ 7 * g < 2 * m.n
    · simp [h]
    · simp [h]
  have HG2 := Lib.hid hG2
  have HC := Lib.hid hc
  clear hc hG2
  go_cut [25] (fun cv wx => cv = .bool c ∧ wx = w)
  case first =>
    by_cases h1 : m.tb = 0
    · have d1 : ((m.tb : Int) == 0) = true := by simpa using h1
      have hc : c = true := by rw [HC.out]; simp [h1]
      have HC2 := Lib.hid hc
      clear h1 hc
      go_wp2
      go_meet
      exact ⟨by rw [HC2.out], rfl⟩
    · have d1 : ((m.tb : Int) == 0) = false := by simpa using h1
      have hc : c = decide (7 * (g : Int) < 2 * (m.n : Int)) := by
        rw [HC.out]
        by_cases h : 7 * g < 2 * m.n
        · rw [decide_eq_true (.inr h), decide_eq_true (by omega)]
        · rw [decide_eq_false (by rintro (h' | h'); exact h1 h'; exact h h'), decide_eq_false (by omega)]
      have HC2 := Lib.hid hc
      clear h1 hc
      go_wp2
      go_meet
      exact ⟨by rw [HC2.out], rfl⟩
  case rest =>
    obtain ⟨rfl, hww⟩ := hcut
    subst hww
    obtain ⟨w0, hw0⟩ : ∃ w0, w0 = wc := ⟨_, rfl⟩
    subst hw0
    go_upto_if 25 with fail
    go_cut [2] (fun gv wx => gv = .int .i64 (G : Int) ∧ wx = w0)
    case first =>
      cases c
      · have hG3 : (g : Int) = (G : Int) := HG2.out
        have HG3 := Lib.hid hG3
        clear hG3
        go_wp2
        go_meet
        exact ⟨by rw [HG3.out], rfl⟩
      · have hG3 : (g : Int) * 2 = (G : Int) := HG2.out
        have HG3 := Lib.hid hG3
        clear hG3
        go_wp2
        go_meet
        exact ⟨by rw [HG3.out], rfl⟩
    case rest =>
      obtain ⟨rfl, hww⟩ := hcut
      subst hww
      obtain ⟨w0, hw0⟩ : ∃ w0, w0 = wc := ⟨_, rfl⟩
      subst hw0
      go_wp2_with fail
      refine HMN.out.mono ?_
      rintro e w1 ⟨q, rfl, hq, hqo, hb1⟩
      have A1 := Lib.hid (HA.out.below (Nat.le_refl _) hb1)
      have HFU := Lib.hid (fulls_any p k0 k1 m w1 A1.out HI.out)
      have HQ := Lib.hid hq
      have HQO := Lib.hid hqo
      have HB1 := Lib.hid hb1
      clear hq hqo hb1 c0 c1 c2 c4 c5
      go_wp2_with fail
      refine HFU.out.mono ?_
      rintro e w2 ⟨v, rfl, hv, hb2⟩
      obtain ⟨va, vc, rfl, hvc⟩ := own_val hv
      have HV := Lib.hid hv
      have HB2 := Lib.hid hb2
      have HQ2 : Hid (At w2 q k0 k1 (empty (reG m))) := by have := HQ.out.below (Nat.le_refl _) hb2; rwa [HG.out] at this
      have HQL : Hid (∀ j, q.own j → j < w1.heap.size) := fun j hj => HQ.out.lt hj
      clear hv hb2
      go_wp2
      go_loopw [37] (fun i wr => ∃ k : Nat, k ≤ m.n ∧ i = .int .i64 k ∧ At wr q k0 k1 (partM (hashN k0 k1) m k) ∧ Kept q.own w2 wr) (fun i _ => m.n - (intOf i).toNat)
      case atStart => exact ⟨0, Nat.zero_le _, rfl, HQ2.out, Kept.refl _ _⟩
      case round =>
        obtain ⟨k, hk, rfl, hA, hK⟩ := hrel
        have HAr := Lib.hid hA
        have HKr := Lib.hid hK
        clear hA hK
        by_cases hlt : k < m.n
        · have hlt' : decide ((k : Int) < (m.n : Int)) = true := decide_eq_true (by omega)
          obtain ⟨gg, cap, hv, _, hgb1, hgb2, hcells⟩ := own_read HV.out (by omega)
          injection hv with hva _ hvc'
          subst hva
          have hat := flatS_at val (fullL m) k (by rw [HFL.out]; exact hlt)
          have hno : ¬ q.own gg := fun e => by have := HQL.out gg e; omega
          have s0 := kept_cell HKr.out (hcells _ _ hat.1) hno
          have s1 := kept_cell HKr.out (hcells _ _ hat.2) hno
          obtain ⟨x, hx⟩ : ∃ x, x = (fullL m).getD k default := ⟨_, rfl⟩
          rw [← hx] at s0 s1
          have HX := Lib.hid hx
          have hxs : x.1.size ≤ maxLen := by rw [hx]; exact HKS.out.full (by rw [HFL.out]; exact hlt)
          have hlt2 : (k : Int) < (m.n : Int) := by omega
          have hgr : gg < wr.heap.size := cell_lt s0
          have LA : Hid (Below wr.heap.size wr (wr.alloc (.cells #[.string x.1, val x.2] 109))) := (Below.refl _ wr).alloc (Nat.le_refl _) _
          have hSr : Sh wr := fun j hj => kept_cell HKr.out (low_cell HB2.out (Nat.le_refl _) (low_cell HB1.out (Nat.le_refl _) (HSh.out j hj))) (fun e => by have := HQO.out 0 e; have := sh_pos HSh.out; omega)
          have HLY := Lib.hid (lay_any q k0 k1 (partM (hashN k0 k1) m k) x.1 x.2 hxs (wr.alloc (.cells #[.string x.1, val x.2] 109)) (HAr.out.below (Nat.le_refl _) LA.out) (part_inv HI.out HF.out hn k hk) (hSr.below LA.out) (fun e => by have := HQO.out 0 e; have := sh_pos HSh.out; omega))
          clear hcells hat hx hvc' hSr hno hxs
          go_wp2_with fail
          refine HLY.out.mono ?_
          rintro e w5 ⟨rfl, hA5, hK5⟩
          have X1 : Hid (At w5 q k0 k1 (partM (hashN k0 k1) m (k + 1))) := by
            show At _ _ _ _ _
            rw [part_succ HI.out hlt, ← HX.out]; exact hA5
          have X2 : Hid (Kept q.own w2 w5) := (HKr.out.alloc _).trans hK5
          clear hA5 hK5
          go_wp2
          go_roundw
          case rel => exact ⟨k + 1, by omega, by go_num, X1.out, X2.out⟩
          case measure => simp [intOf]; omega
        · have hlt' : decide ((k : Int) < (m.n : Int)) = false := decide_eq_false (by omega)
          obtain rfl : k = m.n := by omega
          have hpq : ∀ j, p.own j → ¬ q.own j := fun j h1 h2 => by have := HA.out.lt h1; have := HQO.out j h2; omega
          have A3 : Hid (At wr p k0 k1 m) := (A1.out.below (Nat.le_refl _) HB2.out).kept HKr.out hpq
          have HPA : Hid (At wr q k0 k1 (rehash (hashN k0 k1) m)) := by
            show At _ _ _ _ _
            rw [← part_all HI.out]; exact HAr.out
          have HPQ := Lib.hid hpq
          have hbb : p.b ≠ q.b := fun e => hpq p.b (.inl rfl) (.inl e)
          have HBBQ := Lib.hid hbb
          clear hpq
          obtain ⟨M, hM⟩ : ∃ M, M = rehash (hashN k0 k1) m := ⟨_, rfl⟩
          rw [← hM] at HPA
          have HM := Lib.hid hM
          have q0 := HPA.out.c0
          have q1 := HPA.out.c1
          have q2 := HPA.out.c2
          have q3 := HPA.out.c3
          have q4 := HPA.out.c4
          have q5 := HPA.out.c5
          have p0 := A3.out.c0
          have p1 := A3.out.c1
          have p2 := A3.out.c2
          have p3 := A3.out.c3
          have p4 := A3.out.c4
          have p5 := A3.out.c5
          have f0 := A3.out.fz 0
          have f1 := A3.out.fz 1
          have f2 := A3.out.fz 2
          have f3 := A3.out.fz 3
          have f4 := A3.out.fz 4
          have f5 := A3.out.fz 5
          clear hM hbb
          go_wp2
          have hs6 := set6_same A3.out.hb (.int .u64 (Sip.U k0)) (.int .u64 (Sip.U k1)) (.slice (some ⟨q.bw, 0, none⟩) M.ws.length q.cw) (.slice (some ⟨q.bs, 0, none⟩) (8 * M.ws.length) q.cs) (.int .i64 M.n) (.int .i64 M.tb)
          have ho6 : ∀ k, k ≠ p.b → _ := fun k hk => set6_other (w := wr) hk (.int .u64 (Sip.U k0)) (.int .u64 (Sip.U k1)) (.slice (some ⟨q.bw, 0, none⟩) M.ws.length q.cw) (.slice (some ⟨q.bs, 0, none⟩) (8 * M.ws.length) q.cs) (.int .i64 M.n) (.int .i64 M.tb)
          have hnw : q.bw ≠ p.b := fun e => HPQ.out p.b (.inl rfl) (.inr (.inl e.symm))
          have hns : q.bs ≠ p.b := fun e => HPQ.out p.b (.inl rfl) (.inr (.inr e.symm))
          refine bodyPost_end (v := .tuple #[]) (by simp [results, Tryd.results69, go_sem]) rfl ⟨rfl, ⟨⟨p.b, q.bw, q.bs, q.cw, q.cs⟩, rfl, ?_, fun j hj => ?_⟩, ?_⟩
          · rw [← HM.out]
            obtain ⟨C, h1, h2⟩ := HPA.out.hw
            obtain ⟨D, h3, h4⟩ := HPA.out.hs
            exact ⟨hs6, ⟨C, (ho6 _ hnw).trans h1, h2⟩, ⟨D, (ho6 _ hns).trans h3, h4⟩, HPA.out.cw, HPA.out.cs, fun e => hnw e.symm, fun e => hns e.symm, HPA.out.n3⟩
          · rcases hj with h | h | h
            · exact .inl h
            · exact .inr (HQO.out j (.inr (.inl h)))
            · exact .inr (HQO.out j (.inr (.inr h)))
          · have hk2 : Kept (· = p.b) w0 w2 := Kept.of (HB1.out.trans (HB2.out.mono HB1.out.size)) (Nat.le_refl _)
            have hk3 : Kept (· = p.b) w0 wr := hk2.join HKr.out (fun _ h => h) (fun i hi h => by have := HQO.out i h; omega)
            exact set6_kept hk3 rfl _ _ _ _ _ _
end Go.Proofs.YtcooapflofiolaaDoor.MS
