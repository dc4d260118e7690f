/- Texts of this seat, set one behind the other. -/
import Derived.Test.YtcooapflofiolaaDoorZ2
import Derived.Test.YtcooapflofiolaaDoorZ1
import Derived.Test.YtcooapflofiolaaDoorZ3
import Derived.Test.YtcooapflofiolaaDoorRows
import Derived.WalkKit
import Derived.ProofKit
import Derived.OpenShut
import Derived.Deep.RegionHeld3
import Derived.Deep.DeepCutAuto
import Derived.ShutString
import Derived.ChangeOld
import Derived.Below
import Derived.SizedLaws
import Derived.Test.YtcooapflofiolaaDoorTie
import Derived.Test.YtcooapflofiolaaDoorCards
import Derived.SevenTiedAt
/- The walk through a map of texts: New, Next, Left. -/
namespace Go.Proofs.YtcooapflofiolaaDoor
set_option linter.unusedVariables false
theorem TR.drop {w : World} {n : Nat} {k : ByteArray} {l : List ByteArray} {b off : Nat} (h : TR w (some ⟨b, off, none⟩) (n + 1) (k :: l)) : TR w (some ⟨b, off + 1, none⟩) n l := by
  refine ⟨by have := h.1; simpa using this, ?_⟩
  obtain ⟨b', off', e, hc⟩ := h.2.resolve_left (by omega)
  injection e with e
  injection e with e1 e2
  subst e1 e2
  refine .inr ⟨b, off + 1, rfl, fun j hj => ?_⟩
  have := hc (j + 1) (by omega)
  rw [Nat.add_assoc, Nat.add_comm 1 j]
  simpa using this
theorem TR.kept {w w' : World} {S : Nat → Prop} {a : Option Addr} {n : Nat} {l : List ByteArray} (h : TR w a n l) (hk : Kept S w w') (hs : ∀ b off, a = some ⟨b, off, none⟩ → ¬ S b) : TR w' a n l := by
  refine ⟨h.1, ?_⟩
  rcases h.2 with h0 | ⟨b, off, e, hc⟩
  · exact .inl h0
  · exact .inr ⟨b, off, e, fun j hj => kept_cell hk (hc j hj) (hs b off e)⟩
end Go.Proofs.YtcooapflofiolaaDoor
namespace Go.Proofs.YtcooapflofiolaaDoor.MS
open Go Go.RowKit Go.Shelf
set_option linter.unusedVariables false
set_option linter.unusedSimpArgs false
set_option maxRecDepth 100000
set_option maxHeartbeats 4000000
theorem frozen_cells {w : World} {b i : Nat} {C : Array Value} {t : TypeId} (h : w.heap[b]? = some (.cells C t (0, 0))) : w.frozen? ⟨b, i, none⟩ = false := by
  unfold World.frozen?; simp [h]
/-- A walk in memory: the map it goes through, and the keys that are ahead; all of it at or above a block. -/
def Wk (w : World) (wl b : Nat) (pb : Nat) (l : List ByteArray) : Prop := ∃ a c, w.heap[b]? = some (.cells #[.pointer (some ⟨pb, 0, none⟩), .slice a l.length c] 119 (0, 0)) ∧ TR w a l.length l ∧ l.length ≤ c ∧ (∀ g off, a = some ⟨g, off, none⟩ → wl ≤ g ∧ g ≠ b) ∧ wl ≤ b
theorem Wk.kept {w w' : World} {S : Nat → Prop} {wl b pb : Nat} {l : List ByteArray} (h : Wk w wl b pb l) (hk : Kept S w w') (hs : ∀ j, wl ≤ j → ¬ S j) : Wk w' wl b pb l := by
  obtain ⟨a, c, h1, h2, h3, h4, h5⟩ := h
  exact ⟨a, c, (hk.block b (Array.getElem?_eq_some_iff.1 h1).1 (hs b h5)).trans h1, h2.kept hk (fun g off e => hs g (h4 g off e).1), h3, h4, h5⟩
theorem Wk.below {w w' : World} {wl b pb : Nat} {l : List ByteArray} (h : Wk w wl b pb l) (hb : Below w.heap.size w w') : Wk w' wl b pb l :=
  h.kept (Kept.of (S := fun _ => False) hb (Nat.le_refl _)) (fun _ _ h => h)
theorem wnew_any (p : Pl) (k0 k1 : BitVec 64) (m : Mp VT) (w : World) (h : At w p k0 k1 m) (I : MInv (hashN k0 k1) m) :
    Calls Tryd.prog 24 #[.pointer (some ⟨p.b, 0, none⟩)] w fun e w' => ∃ b, e = .returned (.pointer (some ⟨b, 0, none⟩)) ∧ Wk w' w.heap.size b p.b (keysL m) ∧ Below w.heap.size w w' := by
  have HK := Lib.hid (keys_any p k0 k1 m w h I)
  have HKL : Hid ((keysL m).length = m.n) := by show _ = _; unfold keysL; rw [List.length_map, full_len I]
  clear h I
  go_enter Tryd.func24, Tryd.ntmps24
  go_wp2_with fail
  refine HK.out.mono ?_
  rintro e w1 ⟨v, rfl, hv, hb⟩
  obtain ⟨a, c, rfl, hc⟩ := own_val hv
  have HV := Lib.hid hv
  have HB := Lib.hid hb
  clear hv hb
  go_wp2
  go_ret
  refine ⟨w1.heap.size, rfl, ⟨a, c, by rw [HKL.out]; exact heap_alloc_new w1 _, ?_, by rw [HKL.out]; exact hc, ?_, HB.out.size⟩, HB.out.alloc HB.out.size _⟩
  · rw [HKL.out]
    refine ⟨HKL.out, ?_⟩
    rcases Nat.eq_zero_or_pos m.n with h0 | h0
    · exact .inl h0
    · obtain ⟨g, cap, e, _, _, hg, hcell⟩ := own_read HV.out h0
      injection e with e1 _ _
      subst e1
      refine .inr ⟨g, 0, rfl, fun j hj => ?_⟩
      have hj' : j < (keysL m).length := by rw [HKL.out]; exact hj
      have := hcell j (.string ((keysL m).getD j default)) (by simp [textsV, hj'])
      rw [Nat.zero_add]
      exact low_cell ((Below.refl _ w1).alloc (Nat.le_refl _) _) (Nat.le_refl _) this
  · intro g off e
    rcases HV.out.2 with ⟨h1, _⟩ | ⟨g', cap, cur, h1, h2, h3, h4⟩
    · injection h1 with h1 _ _; rw [h1] at e; cases e
    · injection h1 with h1 _ _
      rw [h1] at e
      injection e with e
      injection e with e _
      subst e
      exact ⟨h2, Nat.ne_of_lt (Array.getElem?_eq_some_iff.1 h3).1⟩
theorem left_any (wl b pb : Nat) (l : List ByteArray) (w : World) (h : Wk w wl b pb l) :
    Calls Tryd.prog 29 #[.pointer (some ⟨b, 0, none⟩)] w fun e w' => e = .returned (.int .i64 (l.length : Nat)) ∧ w = w' := by
  obtain ⟨a, c, h1, _⟩ := h
  have c1 : w.cell? ⟨b, 1, none⟩ = some (.slice a l.length c) := by unfold World.cell?; simp [h1]
  clear h1
  go_enter Tryd.func29, Tryd.ntmps29
  go_wp2
  go_ret
  exact ⟨rfl, rfl⟩
def aheadOf (b : Nat) (w : World) : Nat := match w.cell? ⟨b, 1, none⟩ with | some (.slice _ n _) => n | _ => 0
/-- What Next answers, and the keys that are then ahead. -/
def nextL (H : ByteArray → Nat) (m : Mp VT) : List ByteArray → (ByteArray × VT × Bool) × List ByteArray
  | [] => ((ByteArray.empty, default, false), [])
  | k :: r => if (getV H m k).2 then ((k, (getV H m k).1, true), r) else nextL H m r
theorem next_any (p : Pl) (k0 k1 : BitVec 64) (m : Mp VT) (b : Nat) (l : List ByteArray) (w : World) (lo : Nat) (h : Live w lo p k0 k1 m) (wl : Nat) (hw : Wk w wl b p.b l) (hk : ∀ k, k ∈ l → k.size ≤ maxLen) (hb : ¬ p.own b) (h0 : 0 < b) :
    Calls Tryd.prog 27 #[.pointer (some ⟨b, 0, none⟩)] w fun e w' => e = .returned (.tuple #[.string (nextL (hashN k0 k1) m l).1.1, val (nextL (hashN k0 k1) m l).1.2.1, .bool (nextL (hashN k0 k1) m l).1.2.2]) ∧ Wk w' wl b p.b (nextL (hashN k0 k1) m l).2 ∧ Kept (· = b) w w' := by
  have HL := Lib.hid h
  have HW := Lib.hid hw
  have HKS := Lib.hid hk
  have HNB := Lib.hid hb
  clear h hw hk hb
  go_enter Tryd.func27, Tryd.ntmps27
  go_wp2
  go_loopw [3] (fun s wr => s = .string ByteArray.empty ∧ ∃ l', Wk wr wl b p.b l' ∧ nextL (hashN k0 k1) m l' = nextL (hashN k0 k1) m l ∧ (∀ k, k ∈ l' → k ∈ l) ∧ Kept (· = b) w wr) (fun _ wr => aheadOf b wr)
  case atStart => exact ⟨rfl, l, HW.out, rfl, fun k h => h, Kept.refl _ _⟩
  case round =>
    obtain ⟨rfl, l', hw', hn, hsub, hK⟩ := hrel
    have HN := Lib.hid hn
    have HSUB := Lib.hid hsub
    have HK := Lib.hid hK
    obtain ⟨a, c, h1, h2, h3, h4, h5⟩ := hw'
    have c0 : wr.cell? ⟨b, 0, none⟩ = some (.pointer (some ⟨p.b, 0, none⟩)) := by unfold World.cell?; simp [h1]
    have c1 : wr.cell? ⟨b, 1, none⟩ = some (.slice a l'.length c) := by unfold World.cell?; simp [h1]
    have f1 : wr.frozen? ⟨b, 1, none⟩ = false := frozen_cells h1
    have H1 := Lib.hid h1
    clear hn hsub hK h1
    cases l' with
    | nil =>
      have HNE : Hid ((ByteArray.empty, default, false) = (nextL (hashN k0 k1) m l).1 ∧ ([] : List ByteArray) = (nextL (hashN k0 k1) m l).2) := by
        have := HN.out
        constructor
        · rw [← this]; rfl
        · rw [← this]; rfl
      have HW2 : Hid (Wk wr wl b p.b []) := ⟨a, c, H1.out, h2, h3, h4, h5⟩
      clear h2 h3 h4
      go_wp2
      refine bodyPost_ret (v := .tuple #[.string ByteArray.empty, val default, .bool false]) ?_ rfl ⟨?_, ?_, HK.out⟩
      · simp [results, Tryd.results27, go_sem]; exact ⟨rfl, rfl⟩
      · rw [← HNE.out.1]
      · rw [← HNE.out.2]; exact HW2.out
    | cons k r =>
      obtain ⟨g, off, rfl, hc⟩ := h2.2.resolve_left (by simp)
      have x0 := hc 0 (by simp)
      rw [Nat.add_zero] at x0
      have x0' : wr.cell? ⟨g, off, none⟩ = some (.string k) := x0
      obtain ⟨hgl, hgb⟩ := h4 g off rfl
      have HTR := Lib.hid h2
      have hkz := HKS.out k (HSUB.out k (List.mem_cons_self ..))
      have hr : r.length + 1 ≤ c := h3
      by_cases hc1 : c = 1
      · subst hc1
        obtain rfl : r = [] := List.length_eq_zero_iff.1 (by omega)
        obtain ⟨w2, hw2⟩ : ∃ w2, w2 = wr.setCell ⟨b, 1, none⟩ (.slice (some ⟨g, off, none⟩) 0 (0)) := ⟨_, rfl⟩
        have K2 : Hid (Kept (· = b) w w2) := by rw [hw2]; exact HK.out.setCell (p := ⟨b, 1, none⟩) (.inl rfl) _
        have KR : Hid (Kept (· = b) wr w2) := by rw [hw2]; exact (Kept.refl (· = b) wr).setCell (p := ⟨b, 1, none⟩) (.inl rfl) _
        have h12 : w2.heap[b]? = some (.cells #[.pointer (some ⟨p.b, 0, none⟩), .slice (some ⟨g, off, none⟩) 0 (0)] 119 (0, 0)) := by
          rw [hw2]; exact heap_setCell_same _ _ 1 _ _ _ H1.out
        have W2 : Hid (Wk w2 wl b p.b ([] : List ByteArray)) := ⟨_, _, h12, ⟨rfl, .inl (by omega)⟩, by omega, fun g' off' e => by injection e with e; injection e with e _; subst e; exact ⟨hgl, hgb⟩, h5⟩
        have L2 : Hid (Live w2 lo p k0 k1 m) := HL.out.kept K2.out (fun j hj e => HNB.out (e ▸ hj)) (fun e => by omega)
        have HGE := Lib.hid (get_any p k0 k1 m k hkz w2 L2.out.at_ L2.out.inv)
        have d0 : w2.cell? ⟨b, 0, none⟩ = some (.pointer (some ⟨p.b, 0, none⟩)) := by unfold World.cell?; simp [h12]
        have HW2 := Lib.hid hw2
        have hm1 : aheadOf b wr = 1 := by unfold aheadOf; rw [c1]; rfl
        have HM1 := Lib.hid hm1
        clear hc x0 h2 h12 hw2 hgb hkz hm1
        go_upto_region 4 with fail
        rw [← HW2.out]
        cases hg : (getV (hashN k0 k1) m k).2 with
        | true =>
          rw [hg] at HGE
          have HNE : Hid ((k, (getV (hashN k0 k1) m k).1, true) = (nextL (hashN k0 k1) m l).1 ∧ ([] : List ByteArray) = (nextL (hashN k0 k1) m l).2) := by
            have := HN.out
            constructor
            · rw [← this]; unfold nextL; rw [if_pos hg]
            · rw [← this]; unfold nextL; rw [if_pos hg]
          clear hg
          go_wp2_with fail
          refine HGE.out.mono ?_
          rintro e w3 ⟨rfl, hb3⟩
          have HB3 := Lib.hid hb3
          clear hb3
          go_wp2
          refine bodyPost_ret (v := .tuple #[.string k, val (getV (hashN k0 k1) m k).1, .bool true]) ?_ rfl ⟨?_, ?_, K2.out.bl HB3.out K2.out.size⟩
          · simp [results, Tryd.results27, go_sem]
          · rw [← HNE.out.1]
          · rw [← HNE.out.2]; exact W2.out.below HB3.out
        | false =>
          rw [hg] at HGE
          have HNE : Hid (nextL (hashN k0 k1) m ([] : List ByteArray) = nextL (hashN k0 k1) m l) := by
            have := HN.out
            show _ = _
            rw [← this]
            conv => rhs; unfold nextL
            rw [if_neg (by rw [hg]; decide)]
          clear hg
          go_wp2_with fail
          refine HGE.out.mono ?_
          rintro e w3 ⟨rfl, hb3⟩
          have HB3 := Lib.hid hb3
          have W3 : Hid (Wk w3 wl b p.b ([] : List ByteArray)) := W2.out.below HB3.out
          have hm3 : aheadOf b w3 = 0 := by
            obtain ⟨a', c', h, _⟩ := W3.out
            have : w3.cell? ⟨b, 1, none⟩ = some (.slice a' 0 c') := by unfold World.cell?; simp [h]
            unfold aheadOf; rw [this]
          have HM3 := Lib.hid hm3
          clear hb3 hm3
          go_wp2
          go_roundw
          case rel => exact ⟨rfl, ([] : List ByteArray), W3.out, HNE.out, fun u hu => HSUB.out u (List.mem_cons_of_mem _ hu), K2.out.bl HB3.out K2.out.size⟩
          case measure => rw [HM1.out, HM3.out]; omega
      · have hc1' : (c == 1) = false := by simpa using hc1
        obtain ⟨w2, hw2⟩ : ∃ w2, w2 = wr.setCell ⟨b, 1, none⟩ (.slice (some ⟨g, off + 1, none⟩) r.length (c - 1)) := ⟨_, rfl⟩
        have K2 : Hid (Kept (· = b) w w2) := by rw [hw2]; exact HK.out.setCell (p := ⟨b, 1, none⟩) (.inl rfl) _
        have KR : Hid (Kept (· = b) wr w2) := by rw [hw2]; exact (Kept.refl (· = b) wr).setCell (p := ⟨b, 1, none⟩) (.inl rfl) _
        have h12 : w2.heap[b]? = some (.cells #[.pointer (some ⟨p.b, 0, none⟩), .slice (some ⟨g, off + 1, none⟩) r.length (c - 1)] 119 (0, 0)) := by
          rw [hw2]; exact heap_setCell_same _ _ 1 _ _ _ H1.out
        have W2 : Hid (Wk w2 wl b p.b r) := ⟨_, _, h12, (HTR.out.drop).kept KR.out (fun b' off' e => by injection e with e; injection e with e _; subst e; exact hgb), by omega, fun g' off' e => by injection e with e; injection e with e _; subst e; exact ⟨hgl, hgb⟩, h5⟩
        have L2 : Hid (Live w2 lo p k0 k1 m) := HL.out.kept K2.out (fun j hj e => HNB.out (e ▸ hj)) (fun e => by omega)
        have HGE := Lib.hid (get_any p k0 k1 m k hkz w2 L2.out.at_ L2.out.inv)
        have d0 : w2.cell? ⟨b, 0, none⟩ = some (.pointer (some ⟨p.b, 0, none⟩)) := by unfold World.cell?; simp [h12]
        have hlen : (1 : Int) ≤ (r.length : Int) + 1 := by omega
        have hcc2 : (r.length : Int) + 1 ≤ (c : Int) := by omega
        have HW2 := Lib.hid hw2
        have hm1 : aheadOf b wr = r.length + 1 := by unfold aheadOf; rw [c1]; rfl
        have HM1 := Lib.hid hm1
        clear hc x0 h2 h12 hw2 hgb hkz hm1
        go_upto_region 4 with fail
        rw [← HW2.out]
        cases hg : (getV (hashN k0 k1) m k).2 with
        | true =>
          rw [hg] at HGE
          have HNE : Hid ((k, (getV (hashN k0 k1) m k).1, true) = (nextL (hashN k0 k1) m l).1 ∧ r = (nextL (hashN k0 k1) m l).2) := by
            have := HN.out
            constructor
            · rw [← this]; unfold nextL; rw [if_pos hg]
            · rw [← this]; unfold nextL; rw [if_pos hg]
          clear hg
          go_wp2_with fail
          refine HGE.out.mono ?_
          rintro e w3 ⟨rfl, hb3⟩
          have HB3 := Lib.hid hb3
          clear hb3
          go_wp2
          refine bodyPost_ret (v := .tuple #[.string k, val (getV (hashN k0 k1) m k).1, .bool true]) ?_ rfl ⟨?_, ?_, K2.out.bl HB3.out K2.out.size⟩
          · simp [results, Tryd.results27, go_sem]
          · rw [← HNE.out.1]
          · rw [← HNE.out.2]; exact W2.out.below HB3.out
        | false =>
          rw [hg] at HGE
          have HNE : Hid (nextL (hashN k0 k1) m r = nextL (hashN k0 k1) m l) := by
            have := HN.out
            show _ = _
            rw [← this]
            conv => rhs; unfold nextL
            rw [if_neg (by rw [hg]; decide)]
          clear hg
          go_wp2_with fail
          refine HGE.out.mono ?_
          rintro e w3 ⟨rfl, hb3⟩
          have HB3 := Lib.hid hb3
          have W3 : Hid (Wk w3 wl b p.b r) := W2.out.below HB3.out
          have hm3 : aheadOf b w3 = r.length := by
            obtain ⟨a', c', h, _⟩ := W3.out
            have : w3.cell? ⟨b, 1, none⟩ = some (.slice a' r.length c') := by unfold World.cell?; simp [h]
            unfold aheadOf; rw [this]
          have HM3 := Lib.hid hm3
          clear hb3 hm3
          go_wp2
          go_roundw
          case rel => exact ⟨rfl, r, W3.out, HNE.out, fun u hu => HSUB.out u (List.mem_cons_of_mem _ hu), K2.out.bl HB3.out K2.out.size⟩
          case measure => rw [HM1.out, HM3.out]; omega
end Go.Proofs.YtcooapflofiolaaDoor.MS

/- What SwissBounds needs of the plain map: the words' sums. -/
namespace Go.Proofs.YtcooapflofiolaaDoor
set_option linter.unusedSectionVars false
set_option linter.unusedVariables false
set_option linter.unusedSimpArgs false
theorem cnt_split (p : Nat → Bool) (a : Nat) : ∀ b, cnt p (a + b) = cnt p a + cnt (fun i => p (a + i)) b
  | 0 => rfl
  | b + 1 => by rw [← Nat.add_assoc, cnt, cnt, cnt_split p a b]; omega
theorem cntF_cnt (x : Nat) {p : Nat → Bool} (h : ∀ i, i < 8 → x.testBit i = p i) : cntF x = cnt p 8 := by
  unfold cntF; rw [cnt_filter]; exact cnt_congr h
section
variable {V : Type} [Inhabited V] {H : ByteArray → Nat} {m : Mp V}
def fulC (m : Mp V) (j : Nat) : Nat := cnt (fun i => decide (m.c i < 128)) (8 * j)
def freC (m : Mp V) (j : Nat) : Nat := cnt (fun i => m.c i == 128 || m.c i == 254) (8 * j)
def empC (m : Mp V) (j : Nat) : Nat := cnt (fun i => m.c i == 128) (8 * j)
theorem fulC_succ (m : Mp V) (j : Nat) : fulC m (j + 1) = fulC m j + cntF (ful (m.w j)) := by
  unfold fulC; rw [Nat.mul_add, Nat.mul_one, cnt_split, cntF_cnt (p := fun i => decide (m.c (8 * j + i) < 128)) _ (fun i hi => by rw [bit_ful _ _ hi, c_at m j hi])]
theorem freC_succ (m : Mp V) (j : Nat) : freC m (j + 1) = freC m j + cntF (fre (m.w j)) := by
  unfold freC; rw [Nat.mul_add, Nat.mul_one, cnt_split, cntF_cnt (p := fun i => m.c (8 * j + i) == 128 || m.c (8 * j + i) == 254) _ (fun i hi => by rw [bit_fre _ _ hi, c_at m j hi])]
theorem empC_succ (m : Mp V) (j : Nat) : empC m (j + 1) = empC m j + cntF (mch (m.w j) 128) := by
  unfold empC; rw [Nat.mul_add, Nat.mul_one, cnt_split, cntF_cnt (p := fun i => m.c (8 * j + i) == 128) _ (fun i hi => by rw [bit_mch _ _ _ hi, c_at m j hi])]
theorem sums_le (m : Mp V) (j : Nat) : fulC m j ≤ 8 * j ∧ freC m j ≤ 8 * j ∧ empC m j ≤ 8 * j := ⟨cnt_le _ _, cnt_le _ _, cnt_le _ _⟩
theorem cntF_le (x : Nat) : cntF x ≤ 8 := by
  unfold cntF; rw [cnt_filter]; exact cnt_le _ _
theorem sums_end (I : MInv H m) : fulC m m.ws.length = m.n ∧ freC m m.ws.length = empC m m.ws.length + m.tb := by
  refine ⟨I.cn.symm, ?_⟩
  unfold freC empC
  rw [I.ctb]
  refine cnt_add fun i _ => ?_
  show (m.c i == 128 || m.c i == 254).toNat = (m.c i == 128).toNat + (m.c i == 254).toNat
  by_cases h1 : m.c i = 128
  · rw [h1]; rfl
  · by_cases h2 : m.c i = 254
    · rw [h2]; rfl
    · rw [beq_false_of_ne h1, beq_false_of_ne h2]; rfl
end
end Go.Proofs.YtcooapflofiolaaDoor
namespace Go.Proofs.YtcooapflofiolaaDoor.MS
theorem key_at {w : World} {lo : Nat} {p : Pl} {k0 k1 : BitVec 64} {m : Mp VT} (h : Live w lo p k0 k1 m) {i : Nat} (hi : i < m.n) :
    ∃ s : ByteArray, (textsV (keysL m))[i]? = some (.string s) ∧ s = (keysL m).getD i default ∧ s.size ≤ maxLen ∧ (getV (hashN k0 k1) m s).2 = true ∧ Has m s (getV (hashN k0 k1) m s).1 := by
  have hl : (keysL m).length = m.n := by unfold keysL; rw [List.length_map, full_len h.inv]
  have hl2 : (fullL m).length = m.n := full_len h.inv
  have hi2 : i < (fullL m).length := by omega
  have hm : ((fullL m)[i].1, (fullL m)[i].2) ∈ fullL m := List.getElem_mem hi2
  have hh := mem_full.1 hm
  have hf := (find_has h.inv).1 ⟨_, hh⟩
  obtain ⟨x, hx⟩ := Option.ne_none_iff_exists'.1 hf
  have hg : getV (hashN k0 k1) m (fullL m)[i].1 = ((m.s x).2, true) := by unfold getV; rw [hx]
  refine ⟨(fullL m)[i].1, by simp [textsV, keysL, hi2], by simp [keysL, hi2], h.keys _ _ hh, by rw [hg], ?_⟩
  rw [hg]
  have := (find_val h.inv hx).1 hh
  rw [← this]; exact hh
theorem key_ne {w : World} {lo : Nat} {p : Pl} {k0 k1 : BitVec 64} {m : Mp VT} (h : Live w lo p k0 k1 m) {i j : Nat} (hi : i < m.n) (hj : j < i) : (keysL m).getD i default ≠ (keysL m).getD j default := by
  have hl2 : (fullL m).length = m.n := full_len h.inv
  have := List.pairwise_iff_getElem.1 (full_pair h.inv) j i (by omega) (by omega) hj
  intro e
  apply this
  have e1 : ∀ k (hk : k < (fullL m).length), (keysL m).getD k default = (fullL m)[k].1 := fun k hk => by simp [keysL, hk]
  rw [e1 i (by omega), e1 j (by omega)] at e
  exact e.symm
end Go.Proofs.YtcooapflofiolaaDoor.MS

/- lives of chapter 6: a walk over three keys. -/
namespace Go.Proofs.YtcooapflofiolaaDoor
section
variable {V : Type} [Inhabited V] {H : ByteArray → Nat} {m : Mp V}
set_option linter.unusedSectionVars false
theorem n_pos (I : MInv H m) {k : ByteArray} {v : V} (h : Has m k v) : 1 ≤ m.n := by
  rw [← full_len I]
  exact List.length_pos_of_mem (mem_full.2 h)
theorem put_n (I : MInv H m) (key : ByteArray) (v : V) (hn : m.n < 2000) : (put H m key v).n ≤ m.n + 1 ∧ 1 ≤ (put H m key v).n := by
  refine ⟨?_, n_pos (put_inv I key v) ((put_has I (.inl hn) key v).2 (by rw [if_pos rfl]))⟩
  cases hf : find H m key with
  | some x => rw [(put_some I hf).2.1]; omega
  | none => rw [(put_none I hf hn).2.1]; omega
end
end Go.Proofs.YtcooapflofiolaaDoor
namespace Go.Proofs.YtcooapflofiolaaDoor.MS
open Go Go.RowKit Go.Shelf
set_option linter.unusedVariables false
set_option linter.unusedSimpArgs false
set_option maxRecDepth 100000
set_option maxHeartbeats 4000000
section
variable {H : ByteArray → Nat} {m : Mp VT}
theorem getV_none (I : MInv H m) {k : ByteArray} (h : ∀ v, ¬ Has m k v) : (getV H m k).2 = false := by
  unfold getV
  cases hf : find H m k with
  | none => rfl
  | some x =>
    obtain ⟨v, hv⟩ := (find_has I).2 (by rw [hf]; simp)
    exact absurd hv (h v)
theorem nextL_none : ∀ {l : List ByteArray}, (∀ k, k ∈ l → (getV H m k).2 = false) → nextL H m l = ((ByteArray.empty, default, false), [])
  | [], _ => rfl
  | k :: r, h => by
    unfold nextL
    rw [if_neg (by rw [h k (List.mem_cons_self ..)]; decide)]
    exact nextL_none fun u hu => h u (List.mem_cons_of_mem _ hu)
theorem keysL_len (I : MInv H m) : (keysL m).length = m.n := by unfold keysL; rw [List.length_map, full_len I]
theorem mem_keysL {k : ByteArray} : k ∈ keysL m ↔ ∃ v, Has m k v := by
  unfold keysL
  rw [List.mem_map]
  constructor
  · rintro ⟨⟨k', v⟩, h, rfl⟩
    exact ⟨v, mem_full.1 h⟩
  · rintro ⟨v, h⟩
    exact ⟨(k, v), mem_full.2 h, rfl⟩
theorem keysL_nodup (I : MInv H m) : (keysL m).Nodup := by
  have := full_pair I
  unfold keysL List.Nodup
  rw [List.pairwise_map]
  exact this
theorem one_left (I : MInv H m) {m' : Mp VT} (I' : MInv H m') {k0 : ByteArray} (h0 : ∃ v, Has m k0 v) (h : ∀ k v, Has m' k v ↔ Has m k v ∧ k = k0) : m'.n = 1 := by
  obtain ⟨v, hv⟩ := h0
  have h1 := n_pos I' ((h k0 v).2 ⟨hv, rfl⟩)
  have hn := keysL_nodup I'
  have hl := keysL_len I'
  rcases hk : keysL m' with _ | ⟨a, _ | ⟨b, r⟩⟩
  · rw [hk] at hl; simp at hl; omega
  · rw [hk] at hl; simp at hl; omega
  · rw [hk] at hn
    have ha : a ∈ keysL m' := by rw [hk]; simp
    have hb : b ∈ keysL m' := by rw [hk]; simp
    obtain ⟨va, ha⟩ := mem_keysL.1 ha
    obtain ⟨vb, hb⟩ := mem_keysL.1 hb
    have e1 := ((h _ _).1 ha).2
    have e2 := ((h _ _).1 hb).2
    subst e1
    subst e2
    simp at hn
end
theorem wlives_any (w : World) (hS : Sh w) : Calls Tryd.prog 22 #[] w fun e w' => e = .returned (.bool true) ∧ Below w.heap.size w w' := by
  have HN := Lib.hid (new_live 0 0 0 w hS)
  rw [show Sip.U (0 : BitVec 64) = 0 from rfl] at HN
  have hneed : needF 0 = 1 := by rfl
  have hpos := Lib.hid (sh_pos hS)
  go_enter Tryd.func22, Tryd.ntmps22
  go_wp2_with fail
  refine HN.out.mono ?_
  rintro e w1 ⟨hb, ⟨h0, _⟩ | ⟨p, g, hg, rfl, hL⟩⟩
  · rw [hneed] at h0; cases h0
  rw [hneed] at hg
  obtain rfl : g = 1 := by omega
  have HL := Lib.hid hL
  have HB := Lib.hid hb
  clear hb hL hg hneed
  go_wp2
  go_loopw [16] (fun i wr => ∃ (k : Nat) (q : Pl) (m : Mp VT), k ≤ 3 ∧ i = .int .i64 k ∧ q.b = p.b ∧ Live wr w.heap.size q 0 0 m ∧ m.n ≤ k ∧ (1 ≤ k → 1 ≤ m.n) ∧ Below w.heap.size w wr) (fun i _ => 3 - (intOf i).toNat)
  case atStart => exact ⟨0, p, _, by omega, rfl, rfl, HL.out, Nat.le_refl _, by omega, HB.out⟩
  case round =>
    obtain ⟨k, q, m, hk, rfl, hq, hLq, hn, hn1, hB⟩ := hrel
    have HLq := Lib.hid hLq
    have HBr := Lib.hid hB
    have HQ := Lib.hid hq
    have HN1 := Lib.hid hn1
    clear hLq hB hq hn1
    by_cases hlt : k < 3
    · have hd : decide ((k : Int) < 3) = true := decide_eq_true (by omega)
      obtain ⟨key, hkey⟩ : ∃ key : ByteArray, key = ⟨#[UInt8.ofNat (97 + k)]⟩ := ⟨_, rfl⟩
      have hix : (Instr.index 111 (.agg #[.string ⟨#[97]⟩, .string ⟨#[98]⟩, .string ⟨#[99]⟩]) (.int .i64 k)).run Tryd.prog wr = .ok (.string key) wr := by
        rw [hkey]
        rcases (show k = 0 ∨ k = 1 ∨ k = 2 by omega) with rfl | rfl | rfl <;> simp [Instr.index, go_sem]
      have HPU := Lib.hid (put_live HLq.out key key (by rw [hkey]; exact (by decide : 1 ≤ maxLen)))
      obtain ⟨z1, z2⟩ := put_n HLq.out.inv key key (by omega)
      obtain ⟨m2, hm2⟩ : ∃ m2, m2 = put (hashN 0 0) m key key := ⟨_, rfl⟩
      rw [← hm2, HQ.out] at HPU
      rw [← hm2] at z1 z2
      clear hm2 hkey
      go_wp2_with fail
      refine HPU.out.mono ?_
      rintro e w2 ⟨rfl, q2, hq2, hL2, _, hK2⟩
      have L2 := Lib.hid hL2
      have B2 : Hid (Below w.heap.size w w2) := HBr.out.trans (HLq.out.low hK2)
      have HQ2 := Lib.hid (hq2.trans HQ.out)
      clear hL2 hK2 hq2
      go_wp2_with fail
      go_roundw
      case rel => exact ⟨k + 1, q2, m2, by omega, by go_num, HQ2.out, L2.out, by omega, fun _ => z2, B2.out⟩
      case measure => simp [intOf]; omega
    · obtain rfl : k = 3 := by omega
      have hn1 : 1 ≤ m.n := HN1.out (by omega)
      obtain ⟨wC, hwC⟩ : ∃ wC, wC = wr := ⟨_, rfl⟩
      rw [← hwC] at HLq HBr ⊢
      clear hwC
      have HQL : Hid (∀ j, q.own j → j < wC.heap.size) := fun j hj => HLq.out.at_.lt hj
      have HWN := Lib.hid (wnew_any q 0 0 m wC HLq.out.at_ HLq.out.inv)
      rw [HQ.out] at HWN
      obtain ⟨s0, e1, e2, e3, e4, e5⟩ := key_at HLq.out (i := 0) (by omega)
      obtain ⟨rest, hks⟩ : ∃ rest, keysL m = s0 :: rest := by
        have := keysL_len HLq.out.inv
        cases hk : keysL m with
        | nil => rw [hk] at this; simp at this; omega
        | cons a r => rw [hk] at e2; simp at e2; subst e2; exact ⟨r, rfl⟩
      have HNX : Hid (nextL (hashN 0 0) m (keysL m) = ((s0, (getV (hashN 0 0) m s0).1, true), rest)) := by
        show _ = _
        rw [hks]
        unfold nextL
        rw [if_pos e4]
      have HKS := Lib.hid hks
      have E5 : Hid (∃ v, Has m s0 v) := ⟨_, e5⟩
      clear e1 e2 e3 e4 e5 hks
      go_wp2_with fail
      refine HWN.out.mono ?_
      rintro e w4 ⟨b, rfl, hwk, hb4⟩
      have W4 : Hid (Wk w4 wC.heap.size b q.b (keysL m)) := by show Wk _ _ _ _ _; rw [HQ.out]; exact hwk
      have hbu : b < w4.heap.size := by obtain ⟨_, _, h, _⟩ := hwk; exact (Array.getElem?_eq_some_iff.1 h).1
      have HBU := Lib.hid hbu
      clear hbu
      have hbl : wC.heap.size ≤ b := by obtain ⟨_, _, _, _, _, _, h⟩ := hwk; exact h
      have L4 := Lib.hid (HLq.out.below (Nat.le_refl _) hb4)
      have B4 : Hid (Below w.heap.size w w4) := HBr.out.trans (hb4.mono HBr.out.size)
      have S4 : Hid (wC.heap.size ≤ w4.heap.size) := hb4.size
      have hwp := hpos.out
      have hwc := HBr.out.size
      have HNA := Lib.hid (next_any q 0 0 m b (keysL m) w4 w.heap.size L4.out wC.heap.size W4.out (fun k hk => by obtain ⟨v, hv⟩ := mem_keysL.1 hk; exact L4.out.keys k v hv) (fun h => by have := HQL.out b h; omega) (by omega))
      rw [HNX.out] at HNA
      obtain ⟨gv, hgv⟩ : ∃ gv, gv = (getV (hashN 0 0) m s0).1 := ⟨_, rfl⟩
      rw [← hgv] at HNA
      clear hwk hb4 hgv
      go_wp2_with fail
      refine HNA.out.mono ?_
      rintro e w5 ⟨rfl, hwk, hk5⟩
      have W5 := Lib.hid hwk
      have L5 : Hid (Live w5 w.heap.size q 0 0 m) := L4.out.kept hk5 (fun j hj e => by have := HQL.out j hj; omega) (fun e => by omega)
      have B5 : Hid (Below w.heap.size w w5) := B4.out.trans (hk5.below (by have := S4.out; omega) (fun j _ e => by omega))
      have S45 : Hid (w4.heap.size ≤ w5.heap.size) := hk5.size
      have S5 : Hid (wC.heap.size ≤ w5.heap.size) := Nat.le_trans S4.out hk5.size
      have HKE := Lib.hid (keys_any q 0 0 m w5 L5.out.at_ L5.out.inv)
      rw [HQ.out] at HKE
      clear hwk hk5
      go_wp2_with fail
      refine HKE.out.mono ?_
      rintro e w6 ⟨v, rfl, hv, hb6⟩
      obtain ⟨va, vc, rfl, hvc⟩ := own_val hv
      have VK := Lib.hid hv
      have L6 := Lib.hid (L5.out.below (Nat.le_refl _) hb6)
      have W6 := Lib.hid (W5.out.below hb6)
      have B6 : Hid (Below w.heap.size w w6) := B5.out.trans (hb6.mono B5.out.size)
      have S6 : Hid (wC.heap.size ≤ w6.heap.size) := Nat.le_trans S5.out hb6.size
      obtain ⟨n, hnn⟩ : ∃ n, n = m.n := ⟨_, rfl⟩
      have HNN := Lib.hid hnn
      have hn3 : n ≤ 3 := by omega
      have S56 : Hid (w4.heap.size ≤ w6.heap.size) := Nat.le_trans S45.out hb6.size
      rw [← hnn] at VK
      rw [← hnn]
      clear hv hvc hb6 hnn
      go_wp2
      go_loopw [35] (fun i wr => ∃ (j : Nat) (q2 : Pl) (m2 : Mp VT), j ≤ n ∧ i = .int .i64 j ∧ q2.b = p.b ∧ Live wr w.heap.size q2 0 0 m2 ∧ (∀ i, q2.own i → q.own i ∨ w6.heap.size ≤ i) ∧ Kept q.own w6 wr ∧ (∀ k v, Has m2 k v ↔ Has m k v ∧ (k = s0 ∨ ∀ i, i < j → k ≠ (keysL m).getD i default))) (fun i _ => n - (intOf i).toNat)
      case atStart => exact ⟨0, q, m, by omega, rfl, HQ.out, L6.out, fun i hi => .inl hi, Kept.refl _ _, fun k v => ⟨fun h => ⟨h, .inr fun i hi => by omega⟩, fun h => h.1⟩⟩
      case round =>
        obtain ⟨j, q2, m2, hj, rfl, hq2, hL2, ho2, hk2, hh2⟩ := hrel
        have HL2 := Lib.hid hL2
        have HO2 := Lib.hid ho2
        have HK2 := Lib.hid hk2
        have HH2 := Lib.hid hh2
        have HQ2 := Lib.hid hq2
        clear hL2 ho2 hk2 hh2 hq2
        have B7 : Hid (Below w.heap.size w wr) := B6.out.trans (HK2.out.below (by have := S6.out; omega) (fun i _ h => L6.out.own i h))
        have hqo : Hid (∀ i, wC.heap.size ≤ i → ¬ q.own i) := fun i hi h => by have := HQL.out i h; omega
        by_cases hlt : j < n
        · have hd2 : decide ((j : Int) < (n : Int)) = true := decide_eq_true (by omega)
          have hkn : (j : Int) < (n : Int) := by omega
          obtain ⟨gg, cap, hv, _, hgb1, _, hcells⟩ := own_read VK.out (by omega)
          injection hv with hva _ hvc'
          subst hva
          obtain ⟨s, e1, e2, e3, _⟩ := key_at HLq.out (i := j) (by rw [← HNN.out]; exact hlt)
          have x0 := kept_cell HK2.out (hcells _ _ e1) (hqo.out _ (Nat.le_trans S5.out hgb1))
          have HE2 := Lib.hid e2
          have HE3 := Lib.hid e3
          clear hcells e1 e2 e3 hvc'
          by_cases hs : s = s0
          · have hne : (s.toList == s0.toList) = true := by rw [beq_toList]; exact decide_eq_true hs
            have HS0 := Lib.hid hs
            clear hs
            go_wp2_with fail
            go_roundw
            case rel =>
              refine ⟨j + 1, q2, m2, by omega, by go_num, HQ2.out, HL2.out, HO2.out, HK2.out, fun k v => ?_⟩
              rw [HH2.out]
              refine and_congr_right fun _ => ⟨?_, ?_⟩
              · rintro (h | h)
                · exact .inl h
                · by_cases hk : k = s0
                  · exact .inl hk
                  · refine .inr fun i hi => ?_
                    rcases Nat.lt_succ_iff_lt_or_eq.1 hi with h1 | rfl
                    · exact h i h1
                    · rw [← HE2.out, HS0.out]; exact hk
              · rintro (h | h)
                · exact .inl h
                · exact .inr fun i hi => h i (by omega)
            case measure => simp [intOf]; omega
          · have hne : (s.toList == s0.toList) = false := by rw [beq_toList]; exact decide_eq_false hs
            have HS0 := Lib.hid hs
            have HDE := Lib.hid (delete_live HL2.out s HE3.out)
            rw [HQ2.out] at HDE
            clear hs
            go_wp2_with fail
            refine HDE.out.mono ?_
            rintro e w8 ⟨rfl, q3, hq3, hL3, ho3, hk3⟩
            have L3 := Lib.hid hL3
            have O3 : Hid (∀ i, q3.own i → q.own i ∨ w6.heap.size ≤ i) := fun i hi => by
              rcases ho3 i hi with h | h
              · exact HO2.out i h
              · exact .inr (Nat.le_trans HK2.out.size h)
            have K3 : Hid (Kept q.own w6 w8) := HK2.out.join hk3 (fun _ h => h) (fun i hi h => (HO2.out i h).resolve_right (by omega))
            have HQ3 := Lib.hid (hq3.trans HQ2.out)
            clear hL3 ho3 hk3 hq3
            go_wp2_with fail
            go_roundw
            case rel =>
              refine ⟨j + 1, q3, _, by omega, by go_num, HQ3.out, L3.out, O3.out, K3.out, fun k v => ?_⟩
              rw [del_has HL2.out.inv, HH2.out]
              constructor
              · rintro ⟨h1, h2, h3⟩
                refine ⟨h2, h3.imp id fun h i hi => ?_⟩
                rcases Nat.lt_succ_iff_lt_or_eq.1 hi with h4 | rfl
                · exact h i h4
                · rw [← HE2.out]; exact h1
              · rintro ⟨h2, h3⟩
                refine ⟨fun e => ?_, h2, h3.imp id fun h i hi => h i (by omega)⟩
                rcases h3 with h3 | h3
                · exact HS0.out (e.symm.trans h3)
                · exact h3 j (by omega) (by rw [← HE2.out]; exact e)
            case measure => simp [intOf]; omega
        · obtain rfl : j = n := by omega
          have hd2 : decide ((j : Int) < (j : Int)) = false := decide_eq_false (by omega)
          have hall : ∀ k v, Has m2 k v ↔ Has m k v ∧ k = s0 := fun k v => by
            rw [HH2.out]
            refine and_congr_right fun h => ⟨fun h1 => h1.resolve_right fun h2 => ?_, .inl⟩
            obtain ⟨i, hi, e⟩ := List.getElem_of_mem (mem_keysL.2 ⟨v, h⟩)
            have hl := keysL_len HLq.out.inv
            exact h2 i (by rw [HNN.out]; omega) (by rw [List.getD_eq_getElem?_getD, List.getElem?_eq_getElem hi, ← e]; rfl)
          have hone := one_left HLq.out.inv HL2.out.inv E5.out hall
          have hnx : nextL (hashN 0 0) m2 rest = ((ByteArray.empty, default, false), []) := nextL_none fun k hk => getV_none HL2.out.inv fun v hv => by
            have e := ((hall k v).1 hv).2
            subst e
            have := keysL_nodup HLq.out.inv
            rw [HKS.out] at this
            exact (List.nodup_cons.1 this).1 hk
          have W7 : Hid (Wk wr wC.heap.size b q2.b rest) := by
            have := W6.out.kept HK2.out hqo.out
            rw [HQ.out, ← HQ2.out] at this
            exact this
          have HNB : Hid (¬ q2.own b) := fun h => by
            rcases HO2.out b h with h | h
            · exact hqo.out b hbl h
            · have := HBU.out; have := S56.out; omega
          have HNA := Lib.hid (next_any q2 0 0 m2 b rest wr w.heap.size HL2.out wC.heap.size W7.out (fun k hk => by obtain ⟨v, hv⟩ := mem_keysL.1 (show k ∈ keysL m by rw [HKS.out]; exact List.mem_cons_of_mem _ hk); exact HLq.out.keys k v hv) HNB.out (by omega))
          rw [hnx] at HNA
          have HONE := Lib.hid hone
          clear hall hnx hone
          go_wp2_with fail
          refine HNA.out.mono ?_
          rintro e w8 ⟨rfl, hwk, hk8⟩
          have W8 := Lib.hid hwk
          have HLE := Lib.hid (len_any q2 0 0 m2 w8 (HL2.out.at_.kept hk8 (fun j hj e => HNB.out (e ▸ hj))) HL2.out.len)
          have HLF := Lib.hid (left_any wC.heap.size b q2.b [] w8 hwk)
          rw [HQ2.out, HONE.out] at HLE
          have B8 : Hid (Below w.heap.size w w8) := B7.out.trans (hk8.below B7.out.size (fun i _ e => by omega))
          clear hwk hk8
          go_wp2_with fail
          refine HLE.out.mono ?_
          rintro e w9 ⟨rfl, rfl⟩
          go_wp2_with fail
          refine HLF.out.mono ?_
          rintro e w9 ⟨rfl, rfl⟩
          go_wp2
          go_ret
          exact ⟨rfl, B8.out⟩
end Go.Proofs.YtcooapflofiolaaDoor.MS

/- Walks of integers that no call made, or over no map. -/
namespace Go.Proofs.YtcooapflofiolaaDoor.MI
open Go Go.RowKit Go.Shelf
set_option linter.unusedVariables false
set_option linter.unusedSimpArgs false
set_option maxRecDepth 100000
set_option maxHeartbeats 4000000
def NoWk (w : World) (p : Option Addr) : Prop := p = none ∨ ∃ b : Nat, p = some ⟨b, 0, none⟩ ∧ w.heap[b]? = some (.cells #[.pointer none, .slice none 0 0] 80 (0, 0))
theorem NoWk.below {w w' : World} {p : Option Addr} {k : Nat} (h : NoWk w p) (hk : w.heap.size ≤ k) (hb : Below k w w') : NoWk w' p := by
  rcases h with h | ⟨b, h1, h2⟩
  · exact .inl h
  · exact .inr ⟨b, h1, by rw [← h2]; exact hb.block b (Nat.lt_of_lt_of_le (Array.getElem?_eq_some_iff.1 h2).1 hk)⟩
theorem wnew_none (w : World) : Calls Tryd.prog 48 #[.pointer none] w fun e w' => e = .returned (.pointer (some ⟨w.heap.size, 0, none⟩)) ∧ w' = w.alloc (.cells #[.pointer none, .slice none 0 0] 80) := by
  have HK := Lib.hid (keys_dead none w (.inl rfl))
  go_enter Tryd.func48, Tryd.ntmps48
  go_wp2_with (go_at_call 60; refine HK.out.mono ?_; rintro e w' ⟨rfl, rfl⟩)
  go_ret
  exact ⟨rfl, rfl⟩
theorem wleft_none (p : Option Addr) (w : World) (h : NoWk w p) : Calls Tryd.prog 50 #[.pointer p] w fun e w' => e = .returned (.int .i64 0) ∧ w = w' := by
  rcases h with rfl | ⟨b, rfl, hb⟩
  · go_enter Tryd.func50, Tryd.ntmps50
    go_wp2
    go_ret
    exact ⟨rfl, rfl⟩
  · have c1 : w.cell? ⟨b, 1, none⟩ = some (.slice none 0 0) := by unfold World.cell?; simp [hb]
    clear hb
    go_enter Tryd.func50, Tryd.ntmps50
    go_wp2
    go_ret
    exact ⟨rfl, rfl⟩
theorem wnext_none (p : Option Addr) (w : World) (h : NoWk w p) : Calls Tryd.prog 49 #[.pointer p] w fun e w' => e = .returned (.tuple #[.string ⟨#[]⟩, .int .i64 0, .bool false]) ∧ w = w' := by
  rcases h with rfl | ⟨b, rfl, hb⟩
  · go_enter Tryd.func49, Tryd.ntmps49
    go_wp2
    go_loopw [3] (fun s wr => s = .int .i64 0 ∧ wr = w) (fun _ _ => 0)
    case atStart => exact ⟨rfl, rfl⟩
    case round =>
      obtain ⟨rfl, hww⟩ := hrel
      have HWW := Lib.hid hww
      clear hww
      go_wp2
      refine bodyPost_ret (v := .tuple #[.string ⟨#[]⟩, .int .i64 0, .bool false]) ?_ rfl ⟨rfl, HWW.out.symm⟩
      simp [results, Tryd.results49, go_sem]
  · have c1 : w.cell? ⟨b, 1, none⟩ = some (.slice none 0 0) := by unfold World.cell?; simp [hb]
    clear hb
    go_enter Tryd.func49, Tryd.ntmps49
    go_wp2
    go_loopw [3] (fun s wr => s = .int .i64 0 ∧ wr = w) (fun _ _ => 0)
    case atStart => exact ⟨rfl, rfl⟩
    case round =>
      obtain ⟨rfl, hww⟩ := hrel
      rw [← hww] at c1
      have HWW := Lib.hid hww
      clear hww
      go_wp2
      refine bodyPost_ret (v := .tuple #[.string ⟨#[]⟩, .int .i64 0, .bool false]) ?_ rfl ⟨rfl, HWW.out.symm⟩
      simp [results, Tryd.results49, go_sem]
theorem all_none (w : World) : Calls Tryd.prog 51 #[.pointer none] w fun e w' => e = .returned (.func (.func 89) #[] #[.pointer (some ⟨w.heap.size, 0, none⟩)]) ∧ w' = w.alloc (.cells #[.pointer none] 78) := by
  go_enter Tryd.func51, Tryd.ntmps51
  go_wp2
  go_ret
  exact ⟨rfl, rfl⟩
theorem seq_none (n : Nat) (hn : 1 ≤ n) (B : Nat) (Kp : World → World → Prop) (w : World) (hB : w.heap[B]? = some (.cells #[.pointer none] 78 (0, 0))) :
    SeqStopsK Fence.wide n Tryd.prog 89 #[.pointer (some ⟨B, 0, none⟩)] (fun x : Empty => #[]) Kp (fun ys => ys = []) (fun _ => False) 0 w := fun l J Jx W hW hJ _ _ hj => by
  have hBW : W.heap[B]? = some (.cells #[.pointer none] 78 (0, 0)) := (hW.block _ (Array.getElem?_eq_some_iff.1 hB).1).trans hB
  have cB : W.cell? ⟨B, 0, none⟩ = some (.pointer none) := by simp [World.cell?, hBW]
  obtain ⟨W1, hW1⟩ : ∃ W1, W1 = W.alloc (.cells #[.pointer none, .slice none 0 0] 80) := ⟨_, rfl⟩
  have HJ : Hid (J [] W1) := by show J [] W1; rw [hW1]; exact hJ [] W _ none hj (World.grownBy_alloc W _ none) (fun r e => by cases e)
  have N1 : Hid (NoWk W1 (some ⟨W.heap.size, 0, none⟩)) := .inr ⟨_, rfl, by rw [hW1]; exact heap_alloc_new W _⟩
  have HC1 := Lib.hid ((callsIn_wide (n := n - 1)).2 (wnew_none W))
  rw [← hW1] at HC1
  have HC2 := Lib.hid ((callsIn_wide (n := n - 1)).2 (wnext_none _ W1 N1.out))
  clear hW1 hBW hB hW hJ hj
  show CallsIn _ _ _ _ #[.func (.yield l) #[] #[], .pointer (some ⟨B, 0, none⟩)] _ _
  refine callsIn_of_wp Tryd.func89 rfl trivial ?_ rfl
  simp only [Tryd.ntmps89, List.size_toArray, List.length_cons, List.length_nil, Nat.reduceAdd, Nat.reduceSub, Array.replicate_succ, Array.replicate_zero, List.push_toArray, List.append_toArray, List.nil_append, List.cons_append]
  have h48 : Fence.wide.fn 48 := trivial
  have h49 : Fence.wide.fn 49 := trivial
  gi_wp2_with fail
  refine HC1.out.mono ?_
  rintro e w' ⟨rfl, rfl⟩
  gi_wp2_with fail
  refine HC2.out.mono ?_
  rintro e w' ⟨rfl, rfl⟩
  gi_wp2
  gi_loopw [6] (fun s wr => s = .bool false ∧ J [] wr) (fun _ _ => 0)
  case atStart => exact ⟨rfl, HJ.out⟩
  case round =>
    obtain ⟨rfl, hj⟩ := hrel
    have HJ2 := Lib.hid hj
    clear hj
    gi_wp2
    refine ⟨fun f h => (by cases h), ?_⟩
    gi_wp2
    go_end0
    exact ⟨⟨_, rfl⟩, .inl ⟨_, rfl, HJ2.out⟩⟩
end Go.Proofs.YtcooapflofiolaaDoor.MI

/- The law 'WalkNone' answers true at every input, and leaves its arguments as they were; the listed table starts as the program's text lays it (the given tie). (The frame was written by a program, after the kit's own frames.) -/
namespace Go.Proofs.YtcooapflofiolaaDoor.walkNone
open Go.ChangeShapes Go.WideShapes Go.ChangeAt Go.RowKit Go.Shelf Go.Proofs.YtcooapflofiolaaDoor
open Go.ChangeMaps (open_string shut_string)
set_option linter.unusedVariables false
set_option linter.unusedSimpArgs false
set_option maxRecDepth 100000

theorem laidOut : laidOutB Tryd.prog = true := by kernel_rfl

set_option maxHeartbeats 8000000 in
theorem walk (w : World) (hS : Sh w) (a0 : Int) (w0 : (Lit.int .i64 a0).wf = true) :
    Calls Tryd.prog 10 #[.int .i64 a0] w fun e w' => e = .returned (.bool true) ∧ Below w.heap.size w w' := by
  obtain ⟨w1, hw1⟩ : ∃ w1, w1 = w.alloc (.cells #[.pointer none, .slice none 0 0] 80) := ⟨_, rfl⟩
  obtain ⟨w2, hw2⟩ : ∃ w2, w2 = w1.alloc (.cells #[.pointer none, .slice none 0 0] 80) := ⟨_, rfl⟩
  have B1 : Hid (Below w.heap.size w w1) := by rw [hw1]; exact (Below.refl _ w).alloc (Nat.le_refl _) _
  have B12 : Hid (Below w1.heap.size w1 w2) := by rw [hw2]; exact (Below.refl _ w1).alloc (Nat.le_refl _) _
  have B2 : Hid (Below w.heap.size w w2) := B1.out.trans (B12.out.mono B1.out.size)
  have D2 : Hid (∀ k : Nat, MI.NoWk w2 (if k = 0 then none else if k = 1 then some ⟨w.heap.size, 0, none⟩ else some ⟨w1.heap.size, 0, none⟩)) := by
    show ∀ k : Nat, _
    intro k
    split
    · exact .inl rfl
    · split
      · exact MI.NoWk.below (w := w1) (.inr ⟨_, rfl, by rw [hw1]; exact heap_alloc_new w _⟩) (Nat.le_refl _) B12.out
      · exact .inr ⟨_, rfl, by rw [hw2]; exact heap_alloc_new w1 _⟩
  have HSh := Lib.hid hS
  have HWN := Lib.hid (MI.wnew_none w1)
  rw [← hw2] at HWN
  have HW1 := Lib.hid hw1
  clear hw1 hw2 hS
  refine (callsIn_wide (n := 4)).1 ?_
  refine callsIn_of_wp_marks Tryd.func10 rfl trivial ?_ rfl
  simp only [Tryd.ntmps10, List.size_toArray, List.length_cons, List.length_nil, Nat.reduceAdd, Nat.reduceSub, Array.replicate_succ, Array.replicate_zero, List.push_toArray, List.append_toArray, List.nil_append, List.cons_append]
  refine wpIn_wide.2 ?_
  go_upto_region 2 with fail
  rw [← HW1.out]
  go_wp2_with fail
  refine HWN.out.mono ?_
  rintro e w3 ⟨rfl, hw3⟩
  have HW3 := Lib.hid hw3
  have B3 : Hid (Below w.heap.size w w3) := by rw [hw3]; exact B2.out
  have D3 : Hid (∀ k : Nat, MI.NoWk w3 (if k = 0 then none else if k = 1 then some ⟨w.heap.size, 0, none⟩ else some ⟨w1.heap.size, 0, none⟩)) := by rw [hw3]; exact D2.out
  clear hw3
  go_wp2
  go_loopw [15] (fun i wr => ∃ k : Nat, k ≤ 3 ∧ i = .int .i64 k ∧ wr = w3) (fun i _ => 3 - (intOf i).toNat)
  case atStart => exact ⟨0, by omega, rfl, rfl⟩
  case round =>
    obtain ⟨k, hk, rfl, hww⟩ := hrel
    obtain ⟨w4, hw4⟩ : ∃ w4, w4 = wr := ⟨_, rfl⟩
    rw [← hw4] at hww ⊢
    have HWW := Lib.hid hww
    have D4 : Hid (∀ k : Nat, MI.NoWk w4 (if k = 0 then none else if k = 1 then some ⟨w.heap.size, 0, none⟩ else some ⟨w1.heap.size, 0, none⟩)) := by rw [hww]; exact D3.out
    have B4 : Hid (Below w.heap.size w w4) := by rw [hww]; exact B3.out
    clear hww hw4
    by_cases hlt : k < 3
    · have hd : decide ((k : Int) < 3) = true := decide_eq_true (by omega)
      have hix : (Instr.index 83 (.agg #[.pointer none, .pointer (some ⟨w.heap.size, 0, none⟩), .pointer (some ⟨w1.heap.size, 0, none⟩)]) (.int .i64 k)).run Tryd.prog w4 = .ok (.pointer (if k = 0 then none else if k = 1 then some ⟨w.heap.size, 0, none⟩ else some ⟨w1.heap.size, 0, none⟩)) w4 := by
        rcases (show k = 0 ∨ k = 1 ∨ k = 2 by omega) with rfl | rfl | rfl <;> simp [Instr.index, go_sem]
      have D := D4.out k
      generalize (if k = 0 then none else if k = 1 then some (⟨w.heap.size, 0, none⟩ : Addr) else some ⟨w1.heap.size, 0, none⟩) = q at *
      have H1 := Lib.hid (MI.wnext_none q w4 D)
      have H2 := Lib.hid (MI.wleft_none q w4 D)
      clear D
      go_wp2_with fail
      refine H1.out.mono ?_
      rintro e w5 ⟨rfl, rfl⟩
      go_wp2_with fail
      refine H2.out.mono ?_
      rintro e w5 ⟨rfl, rfl⟩
      go_wp2_with fail
      go_roundw
      case rel => exact ⟨k + 1, by omega, by go_num, HWW.out⟩
      case measure => simp [intOf]; omega
    · obtain rfl : k = 3 := by omega
      obtain ⟨w5, hw5⟩ : ∃ w5, w5 = w4.alloc (.cells #[.int .i64 0] 3) := ⟨_, rfl⟩
      have HAL := Lib.hid (MI.all_none w5)
      have B5 : Hid (Below w.heap.size w w5) := by rw [hw5]; exact B4.out.alloc B4.out.size _
      have c5 : w5.cell? ⟨w4.heap.size, 0, none⟩ = some (.int .i64 0) := by rw [hw5]; simp
      have HW5 := Lib.hid hw5
      obtain ⟨w6, hw6⟩ : ∃ w6, w6 = w5.alloc (.cells #[.pointer none] 78) := ⟨_, rfl⟩
      have L56 : Hid (Below w5.heap.size w5 w6) := by rw [hw6]; exact (Below.refl _ w5).alloc (Nat.le_refl _) _
      have B6 : Hid (Below w.heap.size w w6) := B5.out.trans (L56.out.mono B5.out.size)
      have c6 : w6.cell? ⟨w4.heap.size, 0, none⟩ = some (.int .i64 0) := low_cell L56.out (Nat.le_refl _) c5
      have b6 : w6.heap[w5.heap.size]? = some (.cells #[.pointer none] 78 (0, 0)) := by rw [hw6]; exact heap_alloc_new w5 _
      rw [← hw6] at HAL
      have HB6 := Lib.hid b6
      have HC6 := Lib.hid c6
      clear hw5 hw6 c5 b6 c6
      go_wp2_with fail
      rw [← HW5.out]
      refine HAL.out.mono ?_
      rintro e w7 ⟨rfl, hw7⟩
      have b7 : w7.heap[w5.heap.size]? = some (.cells #[.pointer none] 78 (0, 0)) := by rw [hw7]; exact HB6.out
      have c7 : w7.cell? ⟨w4.heap.size, 0, none⟩ = some (.int .i64 0) := by rw [hw7]; exact HC6.out
      have B7 : Hid (Below w.heap.size w w7) := by rw [hw7]; exact B6.out
      have HB7 := Lib.hid b7
      have HC7 := Lib.hid c7
      have hnn : (binOp .neq 87 (.func (.func 89) #[] #[.pointer (some ⟨w5.heap.size, 0, none⟩)]) .nilFunc).run Tryd.prog w7 = .ok (.bool true) w7 := by kernel_rfl
      have hlt7 := cell_lt c7
      clear hw7 b7 c7
      go_wp2_with fail
      refine (wpIn_wide (n := 4)).1 ?_
      refine wpIn_rangeFunc_ownG (α := Empty) (n := 4) rfl (by omega) (gf := 89) (lb := #[.pointer (some ⟨w5.heap.size, 0, none⟩)]) rfl trivial (enters_of Tryd.func89 (by kernel_rfl) rfl)
        (MI.seq_none 3 (by omega) w5.heap.size (fun _ _ => True) w7 HB7.out) (fun _ _ => trivial) (fun _ _ _ _ _ _ _ _ => trivial) (Below.refl _ _) (fun x => x.elim)
        (fun _ W => Below w7.heap.size w7 W) (fun _ _ _ => False) (ownFrom_below (Nat.le_refl _) (Nat.le_refl _)) (fun c s W W' row h _ _ => h) (Below.refl _ _) (fun x => x.elim) ?assign ?body ?done ?stop
      case assign => exact fun l x => x.elim
      case body => exact fun l pre x => x.elim
      case stop => exact fun D c pre W _ h => h.elim
      case done =>
        rintro D ys W hD rfl hB hK
        have k0 := low_cell hB (Nat.le_refl _) HC7.out
        have BW : Hid (Below w.heap.size w W) := B7.out.trans (hB.mono B7.out.size)
        have HLV := Lib.hid (MS.wlives_any W (HSh.out.below BW.out))
        have HK := Lib.hid hK
        clear hB hK
        go_wp2_with fail
        refine HLV.out.mono ?_
        rintro e W2 ⟨rfl, hb⟩
        have hK2 : W2.heap[D]? = some (.deferred (some [])) := (hb.block D (Array.getElem?_eq_some_iff.1 HK.out).1).trans HK.out
        have BW2 : Hid (Below w.heap.size w W2) := BW.out.trans (hb.mono BW.out.size)
        clear hb
        go_wp2
        refine ⟨by simp, .inl ⟨_, _, rfl, run_takeDeferred hK2, ?_⟩⟩
        refine ⟨_, results_tmp rfl _ _ _, rfl, ?_⟩
        exact BW2.out.trans (belowK_b (w := w7) (B7.out.size) W2 D _ _ hD hK2 rfl rfl)

theorem lifted (os : Os) (started : os.Started) (H : Type) (enc : TypeId × Value → H) :
    ReturnsInHanded {} Tryd.checked os 10 .any (fun w args => (Rows.walkNoneSpec.pre enc Tryd.prog Tryd.f10 [] false w args ∧ laidMetH Tryd.prog [("corbel/group.shifts", Rows.laid_corbel_group_shifts)] w) ∧ sizedMet enc Tryd.prog Tryd.f10 (OpenSpec.ofChange Rows.walkNoneSpec) false w args)
      (Rows.walkNoneSpec.post enc Tryd.prog Tryd.f10 false true false false) := by
  refine returnsInHanded_of_change_and (C := Tryd.checked) (X := fun w _ => laidMetH Tryd.prog [("corbel/group.shifts", Rows.laid_corbel_group_shifts)] w) (fun _ _ _ hh h => h.of_heap hh) own started (by kernel_rfl) Tryd.func10
    (ChangeSpec.witness_at (enc := enc) (C := Tryd.checked) (os := os) (X := fun w _ => laidMetH Tryd.prog [("corbel/group.shifts", Rows.laid_corbel_group_shifts)] w) false (laidWorld os) #[.int .i64 0] 8 rfl (by kernel_rfl) (by kernel_rfl) (by kernel_rfl) (by kernel_rfl) (by kernel_rfl) (laidWorld_met os _)) ?_
  intro W base args ds gs before hval0 hW hcnd hsz0 hL _
  have hsz : (DataW.weightsEach Tryd.prog (Tryd.f10.params.toList ++ Rows.walkNoneSpec.plain.varTypes Tryd.prog) (ds ++ gs)).all (· ≤ reachBytes) = true := hsz0
  clear hsz0
  have hval : ∀ (j : Nat) t v, Tryd.f10.params[j]? = some t → args[j]? = some v → Value.okWide Tryd.prog W .any base t v := hval0
  have hW' := hW
  obtain ⟨p, q, hA0, hV, rfl, hfz, hnd⟩ := hW
  have hA : DataW.TrodAll enc Tryd.prog W 0 (fun _ => true) true Tryd.f10.params.toList args.toList ds p := hA0
  rw [Tryd.params10] at hA hval hsz
  obtain ⟨v0, vs0, d0, ds0, p0, q0, hargs, rfl, rfl, h0, r0⟩ := trodAll_cons hA
  obtain ⟨rfl, rfl, rfl⟩ := trodAll_nil r0
  obtain rfl : args = #[v0] := by cases args; simp_all
  obtain ⟨rfl, rfl⟩ := trodVars_none hV
  have hfit0 := fun q hq => of_decide_eq_true (List.all_eq_true.1 hsz q hq)
  clear hsz
  obtain ⟨F0, hfit1⟩ := fit_cons hfit0
  obtain ⟨a0, rfl, rfl, rfl, w0⟩ := open_int Tryd.underlying3 (hval 0 3 v0 rfl rfl) h0
  clear hA0 hval0
  try simp only [List.append_nil] at hW'
  refine (walk W (sh_of_laid hL) a0 w0).mono fun e W' ⟨he, hg⟩ => ?_
  subst he
  exact ⟨_, rfl, _, _, _, [], _, [], hW', (trodAll_cons_mk (shut_bool Tryd.underlying4 _) trodAll_mk0), (trodAll_cons_mk (shut_int Tryd.underlying3 w0) trodAll_mk0), rfl, hg.frame _, fun h => by cases h⟩

theorem over : Rows.walkNoneRow.holds Tryd.pinned (OpenSpec.ofChange Rows.walkNoneSpec) :=
  OpenClaim.holds_of_wide 10 Tryd.f10 rfl rfl rfl rfl rfl rfl rfl ⟨rfl, rfl, rfl, rfl, rfl⟩ rfl rfl rfl rfl rfl (by kernel_rfl) Tryd.func10 (by kernel_rfl)
    (of_decide_eq_true (by kernel_rfl)) (by unfold Func.isWrapper; first | (rw [if_pos (by decide +kernel)]; kernel_rfl) | (rw [if_neg (by decide +kernel)]; exact ⟨rfl, rfl⟩))
    (fun os started H enc _ => lifted os started H enc)

/-- ████ THE STATEMENT ████ -/
theorem proved : Rows.WalkNoneCardSaid :=
  Claim7.holds_tied_plain_at .later [] [.data] true (true, "7e67664e74d41973af7dd467c0ac8d15e139965457cce989b794987f38f310ec") false
    over (fun _ h => by cases h) (by kernel_rfl) (fun _ h => by cases h) walkNone_row_tie rfl ⟨rfl, rfl⟩ (by kernel_rfl) rfl
    (fun f fn hf hfn => by
      obtain rfl : f = 10 := Option.some.inj ((show Tryd.prog.funcNamed "corbel/corbellaw06.WalkNone" = some 10 by kernel_rfl).symm.trans hf) |>.symm
      obtain rfl : fn = Tryd.f10 := (Option.some.inj (Tryd.func10.symm.trans hfn)).symm
      refine ⟨by kernel_rfl, fun j t ht => ?_⟩
      have hm := Array.mem_of_getElem? ht
      rw [Tryd.params10] at hm
      simp only [List.mem_toArray, List.mem_cons, List.not_mem_nil, or_false] at hm
      rcases hm with rfl
      · exact (show Tryd.prog.wantsStandIn 3 = false by kernel_rfl))
    (by kernel_rfl)
#print axioms proved
end Go.Proofs.YtcooapflofiolaaDoor.walkNone
