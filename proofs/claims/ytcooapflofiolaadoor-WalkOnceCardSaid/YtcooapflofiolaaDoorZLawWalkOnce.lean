/- Texts of this seat, set one behind the other. -/
import Derived.Test.YtcooapflofiolaaDoorZ2
import Derived.Test.YtcooapflofiolaaDoorZ1
import Derived.Test.YtcooapflofiolaaDoorZ3
import Derived.Laws.OwnMore
import Derived.Test.YtcooapflofiolaaDoorRows
import Derived.WalkKit
import Derived.ProofKit
import Derived.OpenShut
import Derived.Deep.RegionHeld3
import Derived.Deep.DeepCutAuto
import Derived.ShutString
import Derived.ChangeOld
import Derived.Below
import Derived.SizedLaws
import Derived.Test.YtcooapflofiolaaDoorTie
import Derived.Test.YtcooapflofiolaaDoorCards
import Derived.SevenTiedAt
/- The walk through a map of texts: New, Next, Left. -/
namespace Go.Proofs.YtcooapflofiolaaDoor
set_option linter.unusedVariables false
theorem TR.drop {w : World} {n : Nat} {k : ByteArray} {l : List ByteArray} {b off : Nat} (h : TR w (some ⟨b, off, none⟩) (n + 1) (k :: l)) : TR w (some ⟨b, off + 1, none⟩) n l := by
  refine ⟨by have := h.1; simpa using this, ?_⟩
  obtain ⟨b', off', e, hc⟩ := h.2.resolve_left (by omega)
  injection e with e
  injection e with e1 e2
  subst e1 e2
  refine .inr ⟨b, off + 1, rfl, fun j hj => ?_⟩
  have := hc (j + 1) (by omega)
  rw [Nat.add_assoc, Nat.add_comm 1 j]
  simpa using this
theorem TR.kept {w w' : World} {S : Nat → Prop} {a : Option Addr} {n : Nat} {l : List ByteArray} (h : TR w a n l) (hk : Kept S w w') (hs : ∀ b off, a = some ⟨b, off, none⟩ → ¬ S b) : TR w' a n l := by
  refine ⟨h.1, ?_⟩
  rcases h.2 with h0 | ⟨b, off, e, hc⟩
  · exact .inl h0
  · exact .inr ⟨b, off, e, fun j hj => kept_cell hk (hc j hj) (hs b off e)⟩
end Go.Proofs.YtcooapflofiolaaDoor
namespace Go.Proofs.YtcooapflofiolaaDoor.MS
open Go Go.RowKit Go.Shelf
set_option linter.unusedVariables false
set_option linter.unusedSimpArgs false
set_option maxRecDepth 100000
set_option maxHeartbeats 4000000
theorem frozen_cells {w : World} {b i : Nat} {C : Array Value} {t : TypeId} (h : w.heap[b]? = some (.cells C t (0, 0))) : w.frozen? ⟨b, i, none⟩ = false := by
  unfold World.frozen?; simp [h]
/-- A walk in memory: the map it goes through, and the keys that are ahead; all of it at or above a block. -/
def Wk (w : World) (wl b : Nat) (pb : Nat) (l : List ByteArray) : Prop := ∃ a c, w.heap[b]? = some (.cells #[.pointer (some ⟨pb, 0, none⟩), .slice a l.length c] 119 (0, 0)) ∧ TR w a l.length l ∧ l.length ≤ c ∧ (∀ g off, a = some ⟨g, off, none⟩ → wl ≤ g ∧ g ≠ b) ∧ wl ≤ b
theorem Wk.kept {w w' : World} {S : Nat → Prop} {wl b pb : Nat} {l : List ByteArray} (h : Wk w wl b pb l) (hk : Kept S w w') (hs : ∀ j, wl ≤ j → ¬ S j) : Wk w' wl b pb l := by
  obtain ⟨a, c, h1, h2, h3, h4, h5⟩ := h
  exact ⟨a, c, (hk.block b (Array.getElem?_eq_some_iff.1 h1).1 (hs b h5)).trans h1, h2.kept hk (fun g off e => hs g (h4 g off e).1), h3, h4, h5⟩
theorem Wk.below {w w' : World} {wl b pb : Nat} {l : List ByteArray} (h : Wk w wl b pb l) (hb : Below w.heap.size w w') : Wk w' wl b pb l :=
  h.kept (Kept.of (S := fun _ => False) hb (Nat.le_refl _)) (fun _ _ h => h)
theorem wnew_any (p : Pl) (k0 k1 : BitVec 64) (m : Mp VT) (w : World) (h : At w p k0 k1 m) (I : MInv (hashN k0 k1) m) :
    Calls Tryd.prog 24 #[.pointer (some ⟨p.b, 0, none⟩)] w fun e w' => ∃ b, e = .returned (.pointer (some ⟨b, 0, none⟩)) ∧ Wk w' w.heap.size b p.b (keysL m) ∧ Below w.heap.size w w' := by
  have HK := Lib.hid (keys_any p k0 k1 m w h I)
  have HKL : Hid ((keysL m).length = m.n) := by show _ = _; unfold keysL; rw [List.length_map, full_len I]
  clear h I
  go_enter Tryd.func24, Tryd.ntmps24
  go_wp2_with fail
  refine HK.out.mono ?_
  rintro e w1 ⟨v, rfl, hv, hb⟩
  obtain ⟨a, c, rfl, hc⟩ := own_val hv
  have HV := Lib.hid hv
  have HB := Lib.hid hb
  clear hv hb
  go_wp2
  go_ret
  refine ⟨w1.heap.size, rfl, ⟨a, c, by rw [HKL.out]; exact heap_alloc_new w1 _, ?_, by rw [HKL.out]; exact hc, ?_, HB.out.size⟩, HB.out.alloc HB.out.size _⟩
  · rw [HKL.out]
    refine ⟨HKL.out, ?_⟩
    rcases Nat.eq_zero_or_pos m.n with h0 | h0
    · exact .inl h0
    · obtain ⟨g, cap, e, _, _, hg, hcell⟩ := own_read HV.out h0
      injection e with e1 _ _
      subst e1
      refine .inr ⟨g, 0, rfl, fun j hj => ?_⟩
      have hj' : j < (keysL m).length := by rw [HKL.out]; exact hj
      have := hcell j (.string ((keysL m).getD j default)) (by simp [textsV, hj'])
      rw [Nat.zero_add]
      exact low_cell ((Below.refl _ w1).alloc (Nat.le_refl _) _) (Nat.le_refl _) this
  · intro g off e
    rcases HV.out.2 with ⟨h1, _⟩ | ⟨g', cap, cur, h1, h2, h3, h4⟩
    · injection h1 with h1 _ _; rw [h1] at e; cases e
    · injection h1 with h1 _ _
      rw [h1] at e
      injection e with e
      injection e with e _
      subst e
      exact ⟨h2, Nat.ne_of_lt (Array.getElem?_eq_some_iff.1 h3).1⟩
theorem left_any (wl b pb : Nat) (l : List ByteArray) (w : World) (h : Wk w wl b pb l) :
    Calls Tryd.prog 29 #[.pointer (some ⟨b, 0, none⟩)] w fun e w' => e = .returned (.int .i64 (l.length : Nat)) ∧ w = w' := by
  obtain ⟨a, c, h1, _⟩ := h
  have c1 : w.cell? ⟨b, 1, none⟩ = some (.slice a l.length c) := by unfold World.cell?; simp [h1]
  clear h1
  go_enter Tryd.func29, Tryd.ntmps29
  go_wp2
  go_ret
  exact ⟨rfl, rfl⟩
def aheadOf (b : Nat) (w : World) : Nat := match w.cell? ⟨b, 1, none⟩ with | some (.slice _ n _) => n | _ => 0
/-- What Next answers, and the keys that are then ahead. -/
def nextL (H : ByteArray → Nat) (m : Mp VT) : List ByteArray → (ByteArray × VT × Bool) × List ByteArray
  | [] => ((ByteArray.empty, default, false), [])
  | k :: r => if (getV H m k).2 then ((k, (getV H m k).1, true), r) else nextL H m r
theorem next_any (p : Pl) (k0 k1 : BitVec 64) (m : Mp VT) (b : Nat) (l : List ByteArray) (w : World) (lo : Nat) (h : Live w lo p k0 k1 m) (wl : Nat) (hw : Wk w wl b p.b l) (hk : ∀ k, k ∈ l → k.size ≤ maxLen) (hb : ¬ p.own b) (h0 : 0 < b) :
    Calls Tryd.prog 27 #[.pointer (some ⟨b, 0, none⟩)] w fun e w' => e = .returned (.tuple #[.string (nextL (hashN k0 k1) m l).1.1, val (nextL (hashN k0 k1) m l).1.2.1, .bool (nextL (hashN k0 k1) m l).1.2.2]) ∧ Wk w' wl b p.b (nextL (hashN k0 k1) m l).2 ∧ Kept (· = b) w w' := by
  have HL := Lib.hid h
  have HW := Lib.hid hw
  have HKS := Lib.hid hk
  have HNB := Lib.hid hb
  clear h hw hk hb
  go_enter Tryd.func27, Tryd.ntmps27
  go_wp2
  go_loopw [3] (fun s wr => s = .string ByteArray.empty ∧ ∃ l', Wk wr wl b p.b l' ∧ nextL (hashN k0 k1) m l' = nextL (hashN k0 k1) m l ∧ (∀ k, k ∈ l' → k ∈ l) ∧ Kept (· = b) w wr) (fun _ wr => aheadOf b wr)
  case atStart => exact ⟨rfl, l, HW.out, rfl, fun k h => h, Kept.refl _ _⟩
  case round =>
    obtain ⟨rfl, l', hw', hn, hsub, hK⟩ := hrel
    have HN := Lib.hid hn
    have HSUB := Lib.hid hsub
    have HK := Lib.hid hK
    obtain ⟨a, c, h1, h2, h3, h4, h5⟩ := hw'
    have c0 : wr.cell? ⟨b, 0, none⟩ = some (.pointer (some ⟨p.b, 0, none⟩)) := by unfold World.cell?; simp [h1]
    have c1 : wr.cell? ⟨b, 1, none⟩ = some (.slice a l'.length c) := by unfold World.cell?; simp [h1]
    have f1 : wr.frozen? ⟨b, 1, none⟩ = false := frozen_cells h1
    have H1 := Lib.hid h1
    clear hn hsub hK h1
    cases l' with
    | nil =>
      have HNE : Hid ((ByteArray.empty, default, false) = (nextL (hashN k0 k1) m l).1 ∧ ([] : List ByteArray) = (nextL (hashN k0 k1) m l).2) := by
        have := HN.out
        constructor
        · rw [← this]; rfl
        · rw [← this]; rfl
      have HW2 : Hid (Wk wr wl b p.b []) := ⟨a, c, H1.out, h2, h3, h4, h5⟩
      clear h2 h3 h4
      go_wp2
      refine bodyPost_ret (v := .tuple #[.string ByteArray.empty, val default, .bool false]) ?_ rfl ⟨?_, ?_, HK.out⟩
      · simp [results, Tryd.results27, go_sem]; exact ⟨rfl, rfl⟩
      · rw [← HNE.out.1]
      · rw [← HNE.out.2]; exact HW2.out
    | cons k r =>
      obtain ⟨g, off, rfl, hc⟩ := h2.2.resolve_left (by simp)
      have x0 := hc 0 (by simp)
      rw [Nat.add_zero] at x0
      have x0' : wr.cell? ⟨g, off, none⟩ = some (.string k) := x0
      obtain ⟨hgl, hgb⟩ := h4 g off rfl
      have HTR := Lib.hid h2
      have hkz := HKS.out k (HSUB.out k (List.mem_cons_self ..))
      have hr : r.length + 1 ≤ c := h3
      by_cases hc1 : c = 1
      · subst hc1
        obtain rfl : r = [] := List.length_eq_zero_iff.1 (by omega)
        obtain ⟨w2, hw2⟩ : ∃ w2, w2 = wr.setCell ⟨b, 1, none⟩ (.slice (some ⟨g, off, none⟩) 0 (0)) := ⟨_, rfl⟩
        have K2 : Hid (Kept (· = b) w w2) := by rw [hw2]; exact HK.out.setCell (p := ⟨b, 1, none⟩) (.inl rfl) _
        have KR : Hid (Kept (· = b) wr w2) := by rw [hw2]; exact (Kept.refl (· = b) wr).setCell (p := ⟨b, 1, none⟩) (.inl rfl) _
        have h12 : w2.heap[b]? = some (.cells #[.pointer (some ⟨p.b, 0, none⟩), .slice (some ⟨g, off, none⟩) 0 (0)] 119 (0, 0)) := by
          rw [hw2]; exact heap_setCell_same _ _ 1 _ _ _ H1.out
        have W2 : Hid (Wk w2 wl b p.b ([] : List ByteArray)) := ⟨_, _, h12, ⟨rfl, .inl (by omega)⟩, by omega, fun g' off' e => by injection e with e; injection e with e _; subst e; exact ⟨hgl, hgb⟩, h5⟩
        have L2 : Hid (Live w2 lo p k0 k1 m) := HL.out.kept K2.out (fun j hj e => HNB.out (e ▸ hj)) (fun e => by omega)
        have HGE := Lib.hid (get_any p k0 k1 m k hkz w2 L2.out.at_ L2.out.inv)
        have d0 : w2.cell? ⟨b, 0, none⟩ = some (.pointer (some ⟨p.b, 0, none⟩)) := by unfold World.cell?; simp [h12]
        have HW2 := Lib.hid hw2
        have hm1 : aheadOf b wr = 1 := by unfold aheadOf; rw [c1]; rfl
        have HM1 := Lib.hid hm1
        clear hc x0 h2 h12 hw2 hgb hkz hm1
        go_upto_region 4 with fail
        rw [← HW2.out]
        cases hg : (getV (hashN k0 k1) m k).2 with
        | true =>
          rw [hg] at HGE
          have HNE : Hid ((k, (getV (hashN k0 k1) m k).1, true) = (nextL (hashN k0 k1) m l).1 ∧ ([] : List ByteArray) = (nextL (hashN k0 k1) m l).2) := by
            have := HN.out
            constructor
            · rw [← this]; unfold nextL; rw [if_pos hg]
            · rw [← this]; unfold nextL; rw [if_pos hg]
          clear hg
          go_wp2_with fail
          refine HGE.out.mono ?_
          rintro e w3 ⟨rfl, hb3⟩
          have HB3 := Lib.hid hb3
          clear hb3
          go_wp2
          refine bodyPost_ret (v := .tuple #[.string k, val (getV (hashN k0 k1) m k).1, .bool true]) ?_ rfl ⟨?_, ?_, K2.out.bl HB3.out K2.out.size⟩
          · simp [results, Tryd.results27, go_sem]
          · rw [← HNE.out.1]
          · rw [← HNE.out.2]; exact W2.out.below HB3.out
        | false =>
          rw [hg] at HGE
          have HNE : Hid (nextL (hashN k0 k1) m ([] : List ByteArray) = nextL (hashN k0 k1) m l) := by
            have := HN.out
            show _ = _
            rw [← this]
            conv => rhs; unfold nextL
            rw [if_neg (by rw [hg]; decide)]
          clear hg
          go_wp2_with fail
          refine HGE.out.mono ?_
          rintro e w3 ⟨rfl, hb3⟩
          have HB3 := Lib.hid hb3
          have W3 : Hid (Wk w3 wl b p.b ([] : List ByteArray)) := W2.out.below HB3.out
          have hm3 : aheadOf b w3 = 0 := by
            obtain ⟨a', c', h, _⟩ := W3.out
            have : w3.cell? ⟨b, 1, none⟩ = some (.slice a' 0 c') := by unfold World.cell?; simp [h]
            unfold aheadOf; rw [this]
          have HM3 := Lib.hid hm3
          clear hb3 hm3
          go_wp2
          go_roundw
          case rel => exact ⟨rfl, ([] : List ByteArray), W3.out, HNE.out, fun u hu => HSUB.out u (List.mem_cons_of_mem _ hu), K2.out.bl HB3.out K2.out.size⟩
          case measure => rw [HM1.out, HM3.out]; omega
      · have hc1' : (c == 1) = false := by simpa using hc1
        obtain ⟨w2, hw2⟩ : ∃ w2, w2 = wr.setCell ⟨b, 1, none⟩ (.slice (some ⟨g, off + 1, none⟩) r.length (c - 1)) := ⟨_, rfl⟩
        have K2 : Hid (Kept (· = b) w w2) := by rw [hw2]; exact HK.out.setCell (p := ⟨b, 1, none⟩) (.inl rfl) _
        have KR : Hid (Kept (· = b) wr w2) := by rw [hw2]; exact (Kept.refl (· = b) wr).setCell (p := ⟨b, 1, none⟩) (.inl rfl) _
        have h12 : w2.heap[b]? = some (.cells #[.pointer (some ⟨p.b, 0, none⟩), .slice (some ⟨g, off + 1, none⟩) r.length (c - 1)] 119 (0, 0)) := by
          rw [hw2]; exact heap_setCell_same _ _ 1 _ _ _ H1.out
        have W2 : Hid (Wk w2 wl b p.b r) := ⟨_, _, h12, (HTR.out.drop).kept KR.out (fun b' off' e => by injection e with e; injection e with e _; subst e; exact hgb), by omega, fun g' off' e => by injection e with e; injection e with e _; subst e; exact ⟨hgl, hgb⟩, h5⟩
        have L2 : Hid (Live w2 lo p k0 k1 m) := HL.out.kept K2.out (fun j hj e => HNB.out (e ▸ hj)) (fun e => by omega)
        have HGE := Lib.hid (get_any p k0 k1 m k hkz w2 L2.out.at_ L2.out.inv)
        have d0 : w2.cell? ⟨b, 0, none⟩ = some (.pointer (some ⟨p.b, 0, none⟩)) := by unfold World.cell?; simp [h12]
        have hlen : (1 : Int) ≤ (r.length : Int) + 1 := by omega
        have hcc2 : (r.length : Int) + 1 ≤ (c : Int) := by omega
        have HW2 := Lib.hid hw2
        have hm1 : aheadOf b wr = r.length + 1 := by unfold aheadOf; rw [c1]; rfl
        have HM1 := Lib.hid hm1
        clear hc x0 h2 h12 hw2 hgb hkz hm1
        go_upto_region 4 with fail
        rw [← HW2.out]
        cases hg : (getV (hashN k0 k1) m k).2 with
        | true =>
          rw [hg] at HGE
          have HNE : Hid ((k, (getV (hashN k0 k1) m k).1, true) = (nextL (hashN k0 k1) m l).1 ∧ r = (nextL (hashN k0 k1) m l).2) := by
            have := HN.out
            constructor
            · rw [← this]; unfold nextL; rw [if_pos hg]
            · rw [← this]; unfold nextL; rw [if_pos hg]
          clear hg
          go_wp2_with fail
          refine HGE.out.mono ?_
          rintro e w3 ⟨rfl, hb3⟩
          have HB3 := Lib.hid hb3
          clear hb3
          go_wp2
          refine bodyPost_ret (v := .tuple #[.string k, val (getV (hashN k0 k1) m k).1, .bool true]) ?_ rfl ⟨?_, ?_, K2.out.bl HB3.out K2.out.size⟩
          · simp [results, Tryd.results27, go_sem]
          · rw [← HNE.out.1]
          · rw [← HNE.out.2]; exact W2.out.below HB3.out
        | false =>
          rw [hg] at HGE
          have HNE : Hid (nextL (hashN k0 k1) m r = nextL (hashN k0 k1) m l) := by
            have := HN.out
            show _ = _
            rw [← this]
            conv => rhs; unfold nextL
            rw [if_neg (by rw [hg]; decide)]
          clear hg
          go_wp2_with fail
          refine HGE.out.mono ?_
          rintro e w3 ⟨rfl, hb3⟩
          have HB3 := Lib.hid hb3
          have W3 : Hid (Wk w3 wl b p.b r) := W2.out.below HB3.out
          have hm3 : aheadOf b w3 = r.length := by
            obtain ⟨a', c', h, _⟩ := W3.out
            have : w3.cell? ⟨b, 1, none⟩ = some (.slice a' r.length c') := by unfold World.cell?; simp [h]
            unfold aheadOf; rw [this]
          have HM3 := Lib.hid hm3
          clear hb3 hm3
          go_wp2
          go_roundw
          case rel => exact ⟨rfl, r, W3.out, HNE.out, fun u hu => HSUB.out u (List.mem_cons_of_mem _ hu), K2.out.bl HB3.out K2.out.size⟩
          case measure => rw [HM1.out, HM3.out]; omega
end Go.Proofs.YtcooapflofiolaaDoor.MS

/- The walk through a map of texts, its blocks told by a predicate (a program made this out of WkS). -/
namespace Go.Proofs.YtcooapflofiolaaDoor.MS
open Go Go.RowKit Go.Shelf
set_option linter.unusedVariables false
set_option linter.unusedSimpArgs false
set_option maxRecDepth 100000
set_option maxHeartbeats 4000000
/-- A walk in memory: the map it goes through, and the keys that are ahead; all of it at or above a block. -/
def Wr (w : World) (R : Nat → Prop) (b : Nat) (pb : Nat) (l : List ByteArray) : Prop := ∃ a c, w.heap[b]? = some (.cells #[.pointer (some ⟨pb, 0, none⟩), .slice a l.length c] 119 (0, 0)) ∧ TR w a l.length l ∧ l.length ≤ c ∧ (∀ g off, a = some ⟨g, off, none⟩ → R g ∧ g ≠ b) ∧ R b
theorem Wr.kept {w w' : World} {S : Nat → Prop} {R : Nat → Prop} {b pb : Nat} {l : List ByteArray} (h : Wr w R b pb l) (hk : Kept S w w') (hs : ∀ j, R j → ¬ S j) : Wr w' R b pb l := by
  obtain ⟨a, c, h1, h2, h3, h4, h5⟩ := h
  exact ⟨a, c, (hk.block b (Array.getElem?_eq_some_iff.1 h1).1 (hs b h5)).trans h1, h2.kept hk (fun g off e => hs g (h4 g off e).1), h3, h4, h5⟩
theorem Wr.below {w w' : World} {R : Nat → Prop} {b pb : Nat} {l : List ByteArray} (h : Wr w R b pb l) (hb : Below w.heap.size w w') : Wr w' R b pb l :=
  h.kept (Kept.of (S := fun _ => False) hb (Nat.le_refl _)) (fun _ _ h => h)
theorem wnew_r (p : Pl) (k0 k1 : BitVec 64) (m : Mp VT) (w : World) (h : At w p k0 k1 m) (I : MInv (hashN k0 k1) m) :
    Calls Tryd.prog 24 #[.pointer (some ⟨p.b, 0, none⟩)] w fun e w' => ∃ b, e = .returned (.pointer (some ⟨b, 0, none⟩)) ∧ Wr w' (fun j => w.heap.size ≤ j ∧ j < w'.heap.size) b p.b (keysL m) ∧ Below w.heap.size w w' := by
  have HK := Lib.hid (keys_any p k0 k1 m w h I)
  have HKL : Hid ((keysL m).length = m.n) := by show _ = _; unfold keysL; rw [List.length_map, full_len I]
  clear h I
  go_enter Tryd.func24, Tryd.ntmps24
  go_wp2_with fail
  refine HK.out.mono ?_
  rintro e w1 ⟨v, rfl, hv, hb⟩
  obtain ⟨a, c, rfl, hc⟩ := own_val hv
  have HV := Lib.hid hv
  have HB := Lib.hid hb
  clear hv hb
  go_wp2
  go_ret
  refine ⟨w1.heap.size, rfl, ⟨a, c, by rw [HKL.out]; exact heap_alloc_new w1 _, ?_, by rw [HKL.out]; exact hc, ?_, ⟨HB.out.size, by simp⟩⟩, HB.out.alloc HB.out.size _⟩
  · rw [HKL.out]
    refine ⟨HKL.out, ?_⟩
    rcases Nat.eq_zero_or_pos m.n with h0 | h0
    · exact .inl h0
    · obtain ⟨g, cap, e, _, _, hg, hcell⟩ := own_read HV.out h0
      injection e with e1 _ _
      subst e1
      refine .inr ⟨g, 0, rfl, fun j hj => ?_⟩
      have hj' : j < (keysL m).length := by rw [HKL.out]; exact hj
      have := hcell j (.string ((keysL m).getD j default)) (by simp [textsV, hj'])
      rw [Nat.zero_add]
      exact low_cell ((Below.refl _ w1).alloc (Nat.le_refl _) _) (Nat.le_refl _) this
  · intro g off e
    rcases HV.out.2 with ⟨h1, _⟩ | ⟨g', cap, cur, h1, h2, h3, h4⟩
    · injection h1 with h1 _ _; rw [h1] at e; cases e
    · injection h1 with h1 _ _
      rw [h1] at e
      injection e with e
      injection e with e _
      subst e
      have := (Array.getElem?_eq_some_iff.1 h3).1
      exact ⟨⟨h2, by simp; omega⟩, Nat.ne_of_lt this⟩
theorem left_r (R : Nat → Prop) (b pb : Nat) (l : List ByteArray) (w : World) (h : Wr w R b pb l) :
    Calls Tryd.prog 29 #[.pointer (some ⟨b, 0, none⟩)] w fun e w' => e = .returned (.int .i64 (l.length : Nat)) ∧ w = w' := by
  obtain ⟨a, c, h1, _⟩ := h
  have c1 : w.cell? ⟨b, 1, none⟩ = some (.slice a l.length c) := by unfold World.cell?; simp [h1]
  clear h1
  go_enter Tryd.func29, Tryd.ntmps29
  go_wp2
  go_ret
  exact ⟨rfl, rfl⟩
theorem next_r (p : Pl) (k0 k1 : BitVec 64) (m : Mp VT) (b : Nat) (l : List ByteArray) (w : World) (lo : Nat) (h : Live w lo p k0 k1 m) (R : Nat → Prop) (hw : Wr w R b p.b l) (hk : ∀ k, k ∈ l → k.size ≤ maxLen) (hb : ¬ p.own b) (h0 : 0 < b) :
    Calls Tryd.prog 27 #[.pointer (some ⟨b, 0, none⟩)] w fun e w' => e = .returned (.tuple #[.string (nextL (hashN k0 k1) m l).1.1, val (nextL (hashN k0 k1) m l).1.2.1, .bool (nextL (hashN k0 k1) m l).1.2.2]) ∧ Wr w' R b p.b (nextL (hashN k0 k1) m l).2 ∧ Kept (· = b) w w' := by
  have HL := Lib.hid h
  have HW := Lib.hid hw
  have HKS := Lib.hid hk
  have HNB := Lib.hid hb
  clear h hw hk hb
  go_enter Tryd.func27, Tryd.ntmps27
  go_wp2
  go_loopw [3] (fun s wr => s = .string ByteArray.empty ∧ ∃ l', Wr wr R b p.b l' ∧ nextL (hashN k0 k1) m l' = nextL (hashN k0 k1) m l ∧ (∀ k, k ∈ l' → k ∈ l) ∧ Kept (· = b) w wr) (fun _ wr => aheadOf b wr)
  case atStart => exact ⟨rfl, l, HW.out, rfl, fun k h => h, Kept.refl _ _⟩
  case round =>
    obtain ⟨rfl, l', hw', hn, hsub, hK⟩ := hrel
    have HN := Lib.hid hn
    have HSUB := Lib.hid hsub
    have HK := Lib.hid hK
    obtain ⟨a, c, h1, h2, h3, h4, h5⟩ := hw'
    have c0 : wr.cell? ⟨b, 0, none⟩ = some (.pointer (some ⟨p.b, 0, none⟩)) := by unfold World.cell?; simp [h1]
    have c1 : wr.cell? ⟨b, 1, none⟩ = some (.slice a l'.length c) := by unfold World.cell?; simp [h1]
    have f1 : wr.frozen? ⟨b, 1, none⟩ = false := frozen_cells h1
    have H1 := Lib.hid h1
    clear hn hsub hK h1
    cases l' with
    | nil =>
      have HNE : Hid ((ByteArray.empty, default, false) = (nextL (hashN k0 k1) m l).1 ∧ ([] : List ByteArray) = (nextL (hashN k0 k1) m l).2) := by
        have := HN.out
        constructor
        · rw [← this]; rfl
        · rw [← this]; rfl
      have HW2 : Hid (Wr wr R b p.b []) := ⟨a, c, H1.out, h2, h3, h4, h5⟩
      clear h2 h3 h4
      go_wp2
      refine bodyPost_ret (v := .tuple #[.string ByteArray.empty, val default, .bool false]) ?_ rfl ⟨?_, ?_, HK.out⟩
      · simp [results, Tryd.results27, go_sem]; exact ⟨rfl, rfl⟩
      · rw [← HNE.out.1]
      · rw [← HNE.out.2]; exact HW2.out
    | cons k r =>
      obtain ⟨g, off, rfl, hc⟩ := h2.2.resolve_left (by simp)
      have x0 := hc 0 (by simp)
      rw [Nat.add_zero] at x0
      have x0' : wr.cell? ⟨g, off, none⟩ = some (.string k) := x0
      obtain ⟨hgl, hgb⟩ := h4 g off rfl
      have HTR := Lib.hid h2
      have hkz := HKS.out k (HSUB.out k (List.mem_cons_self ..))
      have hr : r.length + 1 ≤ c := h3
      by_cases hc1 : c = 1
      · subst hc1
        obtain rfl : r = [] := List.length_eq_zero_iff.1 (by omega)
        obtain ⟨w2, hw2⟩ : ∃ w2, w2 = wr.setCell ⟨b, 1, none⟩ (.slice (some ⟨g, off, none⟩) 0 (0)) := ⟨_, rfl⟩
        have K2 : Hid (Kept (· = b) w w2) := by rw [hw2]; exact HK.out.setCell (p := ⟨b, 1, none⟩) (.inl rfl) _
        have KR : Hid (Kept (· = b) wr w2) := by rw [hw2]; exact (Kept.refl (· = b) wr).setCell (p := ⟨b, 1, none⟩) (.inl rfl) _
        have h12 : w2.heap[b]? = some (.cells #[.pointer (some ⟨p.b, 0, none⟩), .slice (some ⟨g, off, none⟩) 0 (0)] 119 (0, 0)) := by
          rw [hw2]; exact heap_setCell_same _ _ 1 _ _ _ H1.out
        have W2 : Hid (Wr w2 R b p.b ([] : List ByteArray)) := ⟨_, _, h12, ⟨rfl, .inl (by omega)⟩, by omega, fun g' off' e => by injection e with e; injection e with e _; subst e; exact ⟨hgl, hgb⟩, h5⟩
        have L2 : Hid (Live w2 lo p k0 k1 m) := HL.out.kept K2.out (fun j hj e => HNB.out (e ▸ hj)) (fun e => by omega)
        have HGE := Lib.hid (get_any p k0 k1 m k hkz w2 L2.out.at_ L2.out.inv)
        have d0 : w2.cell? ⟨b, 0, none⟩ = some (.pointer (some ⟨p.b, 0, none⟩)) := by unfold World.cell?; simp [h12]
        have HW2 := Lib.hid hw2
        have hm1 : aheadOf b wr = 1 := by unfold aheadOf; rw [c1]; rfl
        have HM1 := Lib.hid hm1
        clear hc x0 h2 h12 hw2 hgb hkz hm1
        go_upto_region 4 with fail
        rw [← HW2.out]
        cases hg : (getV (hashN k0 k1) m k).2 with
        | true =>
          rw [hg] at HGE
          have HNE : Hid ((k, (getV (hashN k0 k1) m k).1, true) = (nextL (hashN k0 k1) m l).1 ∧ ([] : List ByteArray) = (nextL (hashN k0 k1) m l).2) := by
            have := HN.out
            constructor
            · rw [← this]; unfold nextL; rw [if_pos hg]
            · rw [← this]; unfold nextL; rw [if_pos hg]
          clear hg
          go_wp2_with fail
          refine HGE.out.mono ?_
          rintro e w3 ⟨rfl, hb3⟩
          have HB3 := Lib.hid hb3
          clear hb3
          go_wp2
          refine bodyPost_ret (v := .tuple #[.string k, val (getV (hashN k0 k1) m k).1, .bool true]) ?_ rfl ⟨?_, ?_, K2.out.bl HB3.out K2.out.size⟩
          · simp [results, Tryd.results27, go_sem]
          · rw [← HNE.out.1]
          · rw [← HNE.out.2]; exact W2.out.below HB3.out
        | false =>
          rw [hg] at HGE
          have HNE : Hid (nextL (hashN k0 k1) m ([] : List ByteArray) = nextL (hashN k0 k1) m l) := by
            have := HN.out
            show _ = _
            rw [← this]
            conv => rhs; unfold nextL
            rw [if_neg (by rw [hg]; decide)]
          clear hg
          go_wp2_with fail
          refine HGE.out.mono ?_
          rintro e w3 ⟨rfl, hb3⟩
          have HB3 := Lib.hid hb3
          have W3 : Hid (Wr w3 R b p.b ([] : List ByteArray)) := W2.out.below HB3.out
          have hm3 : aheadOf b w3 = 0 := by
            obtain ⟨a', c', h, _⟩ := W3.out
            have : w3.cell? ⟨b, 1, none⟩ = some (.slice a' 0 c') := by unfold World.cell?; simp [h]
            unfold aheadOf; rw [this]
          have HM3 := Lib.hid hm3
          clear hb3 hm3
          go_wp2
          go_roundw
          case rel => exact ⟨rfl, ([] : List ByteArray), W3.out, HNE.out, fun u hu => HSUB.out u (List.mem_cons_of_mem _ hu), K2.out.bl HB3.out K2.out.size⟩
          case measure => rw [HM1.out, HM3.out]; omega
      · have hc1' : (c == 1) = false := by simpa using hc1
        obtain ⟨w2, hw2⟩ : ∃ w2, w2 = wr.setCell ⟨b, 1, none⟩ (.slice (some ⟨g, off + 1, none⟩) r.length (c - 1)) := ⟨_, rfl⟩
        have K2 : Hid (Kept (· = b) w w2) := by rw [hw2]; exact HK.out.setCell (p := ⟨b, 1, none⟩) (.inl rfl) _
        have KR : Hid (Kept (· = b) wr w2) := by rw [hw2]; exact (Kept.refl (· = b) wr).setCell (p := ⟨b, 1, none⟩) (.inl rfl) _
        have h12 : w2.heap[b]? = some (.cells #[.pointer (some ⟨p.b, 0, none⟩), .slice (some ⟨g, off + 1, none⟩) r.length (c - 1)] 119 (0, 0)) := by
          rw [hw2]; exact heap_setCell_same _ _ 1 _ _ _ H1.out
        have W2 : Hid (Wr w2 R b p.b r) := ⟨_, _, h12, (HTR.out.drop).kept KR.out (fun b' off' e => by injection e with e; injection e with e _; subst e; exact hgb), by omega, fun g' off' e => by injection e with e; injection e with e _; subst e; exact ⟨hgl, hgb⟩, h5⟩
        have L2 : Hid (Live w2 lo p k0 k1 m) := HL.out.kept K2.out (fun j hj e => HNB.out (e ▸ hj)) (fun e => by omega)
        have HGE := Lib.hid (get_any p k0 k1 m k hkz w2 L2.out.at_ L2.out.inv)
        have d0 : w2.cell? ⟨b, 0, none⟩ = some (.pointer (some ⟨p.b, 0, none⟩)) := by unfold World.cell?; simp [h12]
        have hlen : (1 : Int) ≤ (r.length : Int) + 1 := by omega
        have hcc2 : (r.length : Int) + 1 ≤ (c : Int) := by omega
        have HW2 := Lib.hid hw2
        have hm1 : aheadOf b wr = r.length + 1 := by unfold aheadOf; rw [c1]; rfl
        have HM1 := Lib.hid hm1
        clear hc x0 h2 h12 hw2 hgb hkz hm1
        go_upto_region 4 with fail
        rw [← HW2.out]
        cases hg : (getV (hashN k0 k1) m k).2 with
        | true =>
          rw [hg] at HGE
          have HNE : Hid ((k, (getV (hashN k0 k1) m k).1, true) = (nextL (hashN k0 k1) m l).1 ∧ r = (nextL (hashN k0 k1) m l).2) := by
            have := HN.out
            constructor
            · rw [← this]; unfold nextL; rw [if_pos hg]
            · rw [← this]; unfold nextL; rw [if_pos hg]
          clear hg
          go_wp2_with fail
          refine HGE.out.mono ?_
          rintro e w3 ⟨rfl, hb3⟩
          have HB3 := Lib.hid hb3
          clear hb3
          go_wp2
          refine bodyPost_ret (v := .tuple #[.string k, val (getV (hashN k0 k1) m k).1, .bool true]) ?_ rfl ⟨?_, ?_, K2.out.bl HB3.out K2.out.size⟩
          · simp [results, Tryd.results27, go_sem]
          · rw [← HNE.out.1]
          · rw [← HNE.out.2]; exact W2.out.below HB3.out
        | false =>
          rw [hg] at HGE
          have HNE : Hid (nextL (hashN k0 k1) m r = nextL (hashN k0 k1) m l) := by
            have := HN.out
            show _ = _
            rw [← this]
            conv => rhs; unfold nextL
            rw [if_neg (by rw [hg]; decide)]
          clear hg
          go_wp2_with fail
          refine HGE.out.mono ?_
          rintro e w3 ⟨rfl, hb3⟩
          have HB3 := Lib.hid hb3
          have W3 : Hid (Wr w3 R b p.b r) := W2.out.below HB3.out
          have hm3 : aheadOf b w3 = r.length := by
            obtain ⟨a', c', h, _⟩ := W3.out
            have : w3.cell? ⟨b, 1, none⟩ = some (.slice a' r.length c') := by unfold World.cell?; simp [h]
            unfold aheadOf; rw [this]
          have HM3 := Lib.hid hm3
          clear hb3 hm3
          go_wp2
          go_roundw
          case rel => exact ⟨rfl, r, W3.out, HNE.out, fun u hu => HSUB.out u (List.mem_cons_of_mem _ hu), K2.out.bl HB3.out K2.out.size⟩
          case measure => rw [HM1.out, HM3.out]; omega
end Go.Proofs.YtcooapflofiolaaDoor.MS

/- What SwissBounds needs of the plain map: the words' sums. -/
namespace Go.Proofs.YtcooapflofiolaaDoor
set_option linter.unusedSectionVars false
set_option linter.unusedVariables false
set_option linter.unusedSimpArgs false
theorem cnt_split (p : Nat → Bool) (a : Nat) : ∀ b, cnt p (a + b) = cnt p a + cnt (fun i => p (a + i)) b
  | 0 => rfl
  | b + 1 => by rw [← Nat.add_assoc, cnt, cnt, cnt_split p a b]; omega
theorem cntF_cnt (x : Nat) {p : Nat → Bool} (h : ∀ i, i < 8 → x.testBit i = p i) : cntF x = cnt p 8 := by
  unfold cntF; rw [cnt_filter]; exact cnt_congr h
section
variable {V : Type} [Inhabited V] {H : ByteArray → Nat} {m : Mp V}
def fulC (m : Mp V) (j : Nat) : Nat := cnt (fun i => decide (m.c i < 128)) (8 * j)
def freC (m : Mp V) (j : Nat) : Nat := cnt (fun i => m.c i == 128 || m.c i == 254) (8 * j)
def empC (m : Mp V) (j : Nat) : Nat := cnt (fun i => m.c i == 128) (8 * j)
theorem fulC_succ (m : Mp V) (j : Nat) : fulC m (j + 1) = fulC m j + cntF (ful (m.w j)) := by
  unfold fulC; rw [Nat.mul_add, Nat.mul_one, cnt_split, cntF_cnt (p := fun i => decide (m.c (8 * j + i) < 128)) _ (fun i hi => by rw [bit_ful _ _ hi, c_at m j hi])]
theorem freC_succ (m : Mp V) (j : Nat) : freC m (j + 1) = freC m j + cntF (fre (m.w j)) := by
  unfold freC; rw [Nat.mul_add, Nat.mul_one, cnt_split, cntF_cnt (p := fun i => m.c (8 * j + i) == 128 || m.c (8 * j + i) == 254) _ (fun i hi => by rw [bit_fre _ _ hi, c_at m j hi])]
theorem empC_succ (m : Mp V) (j : Nat) : empC m (j + 1) = empC m j + cntF (mch (m.w j) 128) := by
  unfold empC; rw [Nat.mul_add, Nat.mul_one, cnt_split, cntF_cnt (p := fun i => m.c (8 * j + i) == 128) _ (fun i hi => by rw [bit_mch _ _ _ hi, c_at m j hi])]
theorem sums_le (m : Mp V) (j : Nat) : fulC m j ≤ 8 * j ∧ freC m j ≤ 8 * j ∧ empC m j ≤ 8 * j := ⟨cnt_le _ _, cnt_le _ _, cnt_le _ _⟩
theorem cntF_le (x : Nat) : cntF x ≤ 8 := by
  unfold cntF; rw [cnt_filter]; exact cnt_le _ _
theorem sums_end (I : MInv H m) : fulC m m.ws.length = m.n ∧ freC m m.ws.length = empC m m.ws.length + m.tb := by
  refine ⟨I.cn.symm, ?_⟩
  unfold freC empC
  rw [I.ctb]
  refine cnt_add fun i _ => ?_
  show (m.c i == 128 || m.c i == 254).toNat = (m.c i == 128).toNat + (m.c i == 254).toNat
  by_cases h1 : m.c i = 128
  · rw [h1]; rfl
  · by_cases h2 : m.c i = 254
    · rw [h2]; rfl
    · rw [beq_false_of_ne h1, beq_false_of_ne h2]; rfl
end
end Go.Proofs.YtcooapflofiolaaDoor
namespace Go.Proofs.YtcooapflofiolaaDoor.MS
theorem key_at {w : World} {lo : Nat} {p : Pl} {k0 k1 : BitVec 64} {m : Mp VT} (h : Live w lo p k0 k1 m) {i : Nat} (hi : i < m.n) :
    ∃ s : ByteArray, (textsV (keysL m))[i]? = some (.string s) ∧ s = (keysL m).getD i default ∧ s.size ≤ maxLen ∧ (getV (hashN k0 k1) m s).2 = true ∧ Has m s (getV (hashN k0 k1) m s).1 := by
  have hl : (keysL m).length = m.n := by unfold keysL; rw [List.length_map, full_len h.inv]
  have hl2 : (fullL m).length = m.n := full_len h.inv
  have hi2 : i < (fullL m).length := by omega
  have hm : ((fullL m)[i].1, (fullL m)[i].2) ∈ fullL m := List.getElem_mem hi2
  have hh := mem_full.1 hm
  have hf := (find_has h.inv).1 ⟨_, hh⟩
  obtain ⟨x, hx⟩ := Option.ne_none_iff_exists'.1 hf
  have hg : getV (hashN k0 k1) m (fullL m)[i].1 = ((m.s x).2, true) := by unfold getV; rw [hx]
  refine ⟨(fullL m)[i].1, by simp [textsV, keysL, hi2], by simp [keysL, hi2], h.keys _ _ hh, by rw [hg], ?_⟩
  rw [hg]
  have := (find_val h.inv hx).1 hh
  rw [← this]; exact hh
theorem key_ne {w : World} {lo : Nat} {p : Pl} {k0 k1 : BitVec 64} {m : Mp VT} (h : Live w lo p k0 k1 m) {i j : Nat} (hi : i < m.n) (hj : j < i) : (keysL m).getD i default ≠ (keysL m).getD j default := by
  have hl2 : (fullL m).length = m.n := full_len h.inv
  have := List.pairwise_iff_getElem.1 (full_pair h.inv) j i (by omega) (by omega) hj
  intro e
  apply this
  have e1 : ∀ k (hk : k < (fullL m).length), (keysL m).getD k default = (fullL m)[k].1 := fun k hk => by simp [keysL, hk]
  rw [e1 i (by omega), e1 j (by omega)] at e
  exact e.symm
end Go.Proofs.YtcooapflofiolaaDoor.MS

/- lives of chapter 6: a walk over three keys. -/
namespace Go.Proofs.YtcooapflofiolaaDoor
section
variable {V : Type} [Inhabited V] {H : ByteArray → Nat} {m : Mp V}
set_option linter.unusedSectionVars false
theorem n_pos (I : MInv H m) {k : ByteArray} {v : V} (h : Has m k v) : 1 ≤ m.n := by
  rw [← full_len I]
  exact List.length_pos_of_mem (mem_full.2 h)
theorem put_n (I : MInv H m) (key : ByteArray) (v : V) (hn : m.n < 2000) : (put H m key v).n ≤ m.n + 1 ∧ 1 ≤ (put H m key v).n := by
  refine ⟨?_, n_pos (put_inv I key v) ((put_has I (.inl hn) key v).2 (by rw [if_pos rfl]))⟩
  cases hf : find H m key with
  | some x => rw [(put_some I hf).2.1]; omega
  | none => rw [(put_none I hf hn).2.1]; omega
end
end Go.Proofs.YtcooapflofiolaaDoor
namespace Go.Proofs.YtcooapflofiolaaDoor.MS
open Go Go.RowKit Go.Shelf
set_option linter.unusedVariables false
set_option linter.unusedSimpArgs false
set_option maxRecDepth 100000
set_option maxHeartbeats 4000000
section
variable {H : ByteArray → Nat} {m : Mp VT}
theorem getV_none (I : MInv H m) {k : ByteArray} (h : ∀ v, ¬ Has m k v) : (getV H m k).2 = false := by
  unfold getV
  cases hf : find H m k with
  | none => rfl
  | some x =>
    obtain ⟨v, hv⟩ := (find_has I).2 (by rw [hf]; simp)
    exact absurd hv (h v)
theorem nextL_none : ∀ {l : List ByteArray}, (∀ k, k ∈ l → (getV H m k).2 = false) → nextL H m l = ((ByteArray.empty, default, false), [])
  | [], _ => rfl
  | k :: r, h => by
    unfold nextL
    rw [if_neg (by rw [h k (List.mem_cons_self ..)]; decide)]
    exact nextL_none fun u hu => h u (List.mem_cons_of_mem _ hu)
theorem keysL_len (I : MInv H m) : (keysL m).length = m.n := by unfold keysL; rw [List.length_map, full_len I]
theorem mem_keysL {k : ByteArray} : k ∈ keysL m ↔ ∃ v, Has m k v := by
  unfold keysL
  rw [List.mem_map]
  constructor
  · rintro ⟨⟨k', v⟩, h, rfl⟩
    exact ⟨v, mem_full.1 h⟩
  · rintro ⟨v, h⟩
    exact ⟨(k, v), mem_full.2 h, rfl⟩
theorem keysL_nodup (I : MInv H m) : (keysL m).Nodup := by
  have := full_pair I
  unfold keysL List.Nodup
  rw [List.pairwise_map]
  exact this
theorem one_left (I : MInv H m) {m' : Mp VT} (I' : MInv H m') {k0 : ByteArray} (h0 : ∃ v, Has m k0 v) (h : ∀ k v, Has m' k v ↔ Has m k v ∧ k = k0) : m'.n = 1 := by
  obtain ⟨v, hv⟩ := h0
  have h1 := n_pos I' ((h k0 v).2 ⟨hv, rfl⟩)
  have hn := keysL_nodup I'
  have hl := keysL_len I'
  rcases hk : keysL m' with _ | ⟨a, _ | ⟨b, r⟩⟩
  · rw [hk] at hl; simp at hl; omega
  · rw [hk] at hl; simp at hl; omega
  · rw [hk] at hn
    have ha : a ∈ keysL m' := by rw [hk]; simp
    have hb : b ∈ keysL m' := by rw [hk]; simp
    obtain ⟨va, ha⟩ := mem_keysL.1 ha
    obtain ⟨vb, hb⟩ := mem_keysL.1 hb
    have e1 := ((h _ _).1 ha).2
    have e2 := ((h _ _).1 hb).2
    subst e1
    subst e2
    simp at hn
end
theorem wlives_any (w : World) (hS : Sh w) : Calls Tryd.prog 22 #[] w fun e w' => e = .returned (.bool true) ∧ Below w.heap.size w w' := by
  have HN := Lib.hid (new_live 0 0 0 w hS)
  rw [show Sip.U (0 : BitVec 64) = 0 from rfl] at HN
  have hneed : needF 0 = 1 := by rfl
  have hpos := Lib.hid (sh_pos hS)
  go_enter Tryd.func22, Tryd.ntmps22
  go_wp2_with fail
  refine HN.out.mono ?_
  rintro e w1 ⟨hb, ⟨h0, _⟩ | ⟨p, g, hg, rfl, hL⟩⟩
  · rw [hneed] at h0; cases h0
  rw [hneed] at hg
  obtain rfl : g = 1 := by omega
  have HL := Lib.hid hL
  have HB := Lib.hid hb
  clear hb hL hg hneed
  go_wp2
  go_loopw [16] (fun i wr => ∃ (k : Nat) (q : Pl) (m : Mp VT), k ≤ 3 ∧ i = .int .i64 k ∧ q.b = p.b ∧ Live wr w.heap.size q 0 0 m ∧ m.n ≤ k ∧ (1 ≤ k → 1 ≤ m.n) ∧ Below w.heap.size w wr) (fun i _ => 3 - (intOf i).toNat)
  case atStart => exact ⟨0, p, _, by omega, rfl, rfl, HL.out, Nat.le_refl _, by omega, HB.out⟩
  case round =>
    obtain ⟨k, q, m, hk, rfl, hq, hLq, hn, hn1, hB⟩ := hrel
    have HLq := Lib.hid hLq
    have HBr := Lib.hid hB
    have HQ := Lib.hid hq
    have HN1 := Lib.hid hn1
    clear hLq hB hq hn1
    by_cases hlt : k < 3
    · have hd : decide ((k : Int) < 3) = true := decide_eq_true (by omega)
      obtain ⟨key, hkey⟩ : ∃ key : ByteArray, key = ⟨#[UInt8.ofNat (97 + k)]⟩ := ⟨_, rfl⟩
      have hix : (Instr.index 111 (.agg #[.string ⟨#[97]⟩, .string ⟨#[98]⟩, .string ⟨#[99]⟩]) (.int .i64 k)).run Tryd.prog wr = .ok (.string key) wr := by
        rw [hkey]
        rcases (show k = 0 ∨ k = 1 ∨ k = 2 by omega) with rfl | rfl | rfl <;> simp [Instr.index, go_sem]
      have HPU := Lib.hid (put_live HLq.out key key (by rw [hkey]; exact (by decide : 1 ≤ maxLen)))
      obtain ⟨z1, z2⟩ := put_n HLq.out.inv key key (by omega)
      obtain ⟨m2, hm2⟩ : ∃ m2, m2 = put (hashN 0 0) m key key := ⟨_, rfl⟩
      rw [← hm2, HQ.out] at HPU
      rw [← hm2] at z1 z2
      clear hm2 hkey
      go_wp2_with fail
      refine HPU.out.mono ?_
      rintro e w2 ⟨rfl, q2, hq2, hL2, _, hK2⟩
      have L2 := Lib.hid hL2
      have B2 : Hid (Below w.heap.size w w2) := HBr.out.trans (HLq.out.low hK2)
      have HQ2 := Lib.hid (hq2.trans HQ.out)
      clear hL2 hK2 hq2
      go_wp2_with fail
      go_roundw
      case rel => exact ⟨k + 1, q2, m2, by omega, by go_num, HQ2.out, L2.out, by omega, fun _ => z2, B2.out⟩
      case measure => simp [intOf]; omega
    · obtain rfl : k = 3 := by omega
      have hn1 : 1 ≤ m.n := HN1.out (by omega)
      obtain ⟨wC, hwC⟩ : ∃ wC, wC = wr := ⟨_, rfl⟩
      rw [← hwC] at HLq HBr ⊢
      clear hwC
      have HQL : Hid (∀ j, q.own j → j < wC.heap.size) := fun j hj => HLq.out.at_.lt hj
      have HWN := Lib.hid (wnew_any q 0 0 m wC HLq.out.at_ HLq.out.inv)
      rw [HQ.out] at HWN
      obtain ⟨s0, e1, e2, e3, e4, e5⟩ := key_at HLq.out (i := 0) (by omega)
      obtain ⟨rest, hks⟩ : ∃ rest, keysL m = s0 :: rest := by
        have := keysL_len HLq.out.inv
        cases hk : keysL m with
        | nil => rw [hk] at this; simp at this; omega
        | cons a r => rw [hk] at e2; simp at e2; subst e2; exact ⟨r, rfl⟩
      have HNX : Hid (nextL (hashN 0 0) m (keysL m) = ((s0, (getV (hashN 0 0) m s0).1, true), rest)) := by
        show _ = _
        rw [hks]
        unfold nextL
        rw [if_pos e4]
      have HKS := Lib.hid hks
      have E5 : Hid (∃ v, Has m s0 v) := ⟨_, e5⟩
      clear e1 e2 e3 e4 e5 hks
      go_wp2_with fail
      refine HWN.out.mono ?_
      rintro e w4 ⟨b, rfl, hwk, hb4⟩
      have W4 : Hid (Wk w4 wC.heap.size b q.b (keysL m)) := by show Wk _ _ _ _ _; rw [HQ.out]; exact hwk
      have hbu : b < w4.heap.size := by obtain ⟨_, _, h, _⟩ := hwk; exact (Array.getElem?_eq_some_iff.1 h).1
      have HBU := Lib.hid hbu
      clear hbu
      have hbl : wC.heap.size ≤ b := by obtain ⟨_, _, _, _, _, _, h⟩ := hwk; exact h
      have L4 := Lib.hid (HLq.out.below (Nat.le_refl _) hb4)
      have B4 : Hid (Below w.heap.size w w4) := HBr.out.trans (hb4.mono HBr.out.size)
      have S4 : Hid (wC.heap.size ≤ w4.heap.size) := hb4.size
      have hwp := hpos.out
      have hwc := HBr.out.size
      have HNA := Lib.hid (next_any q 0 0 m b (keysL m) w4 w.heap.size L4.out wC.heap.size W4.out (fun k hk => by obtain ⟨v, hv⟩ := mem_keysL.1 hk; exact L4.out.keys k v hv) (fun h => by have := HQL.out b h; omega) (by omega))
      rw [HNX.out] at HNA
      obtain ⟨gv, hgv⟩ : ∃ gv, gv = (getV (hashN 0 0) m s0).1 := ⟨_, rfl⟩
      rw [← hgv] at HNA
      clear hwk hb4 hgv
      go_wp2_with fail
      refine HNA.out.mono ?_
      rintro e w5 ⟨rfl, hwk, hk5⟩
      have W5 := Lib.hid hwk
      have L5 : Hid (Live w5 w.heap.size q 0 0 m) := L4.out.kept hk5 (fun j hj e => by have := HQL.out j hj; omega) (fun e => by omega)
      have B5 : Hid (Below w.heap.size w w5) := B4.out.trans (hk5.below (by have := S4.out; omega) (fun j _ e => by omega))
      have S45 : Hid (w4.heap.size ≤ w5.heap.size) := hk5.size
      have S5 : Hid (wC.heap.size ≤ w5.heap.size) := Nat.le_trans S4.out hk5.size
      have HKE := Lib.hid (keys_any q 0 0 m w5 L5.out.at_ L5.out.inv)
      rw [HQ.out] at HKE
      clear hwk hk5
      go_wp2_with fail
      refine HKE.out.mono ?_
      rintro e w6 ⟨v, rfl, hv, hb6⟩
      obtain ⟨va, vc, rfl, hvc⟩ := own_val hv
      have VK := Lib.hid hv
      have L6 := Lib.hid (L5.out.below (Nat.le_refl _) hb6)
      have W6 := Lib.hid (W5.out.below hb6)
      have B6 : Hid (Below w.heap.size w w6) := B5.out.trans (hb6.mono B5.out.size)
      have S6 : Hid (wC.heap.size ≤ w6.heap.size) := Nat.le_trans S5.out hb6.size
      obtain ⟨n, hnn⟩ : ∃ n, n = m.n := ⟨_, rfl⟩
      have HNN := Lib.hid hnn
      have hn3 : n ≤ 3 := by omega
      have S56 : Hid (w4.heap.size ≤ w6.heap.size) := Nat.le_trans S45.out hb6.size
      rw [← hnn] at VK
      rw [← hnn]
      clear hv hvc hb6 hnn
      go_wp2
      go_loopw [35] (fun i wr => ∃ (j : Nat) (q2 : Pl) (m2 : Mp VT), j ≤ n ∧ i = .int .i64 j ∧ q2.b = p.b ∧ Live wr w.heap.size q2 0 0 m2 ∧ (∀ i, q2.own i → q.own i ∨ w6.heap.size ≤ i) ∧ Kept q.own w6 wr ∧ (∀ k v, Has m2 k v ↔ Has m k v ∧ (k = s0 ∨ ∀ i, i < j → k ≠ (keysL m).getD i default))) (fun i _ => n - (intOf i).toNat)
      case atStart => exact ⟨0, q, m, by omega, rfl, HQ.out, L6.out, fun i hi => .inl hi, Kept.refl _ _, fun k v => ⟨fun h => ⟨h, .inr fun i hi => by omega⟩, fun h => h.1⟩⟩
      case round =>
        obtain ⟨j, q2, m2, hj, rfl, hq2, hL2, ho2, hk2, hh2⟩ := hrel
        have HL2 := Lib.hid hL2
        have HO2 := Lib.hid ho2
        have HK2 := Lib.hid hk2
        have HH2 := Lib.hid hh2
        have HQ2 := Lib.hid hq2
        clear hL2 ho2 hk2 hh2 hq2
        have B7 : Hid (Below w.heap.size w wr) := B6.out.trans (HK2.out.below (by have := S6.out; omega) (fun i _ h => L6.out.own i h))
        have hqo : Hid (∀ i, wC.heap.size ≤ i → ¬ q.own i) := fun i hi h => by have := HQL.out i h; omega
        by_cases hlt : j < n
        · have hd2 : decide ((j : Int) < (n : Int)) = true := decide_eq_true (by omega)
          have hkn : (j : Int) < (n : Int) := by omega
          obtain ⟨gg, cap, hv, _, hgb1, _, hcells⟩ := own_read VK.out (by omega)
          injection hv with hva _ hvc'
          subst hva
          obtain ⟨s, e1, e2, e3, _⟩ := key_at HLq.out (i := j) (by rw [← HNN.out]; exact hlt)
          have x0 := kept_cell HK2.out (hcells _ _ e1) (hqo.out _ (Nat.le_trans S5.out hgb1))
          have HE2 := Lib.hid e2
          have HE3 := Lib.hid e3
          clear hcells e1 e2 e3 hvc'
          by_cases hs : s = s0
          · have hne : (s.toList == s0.toList) = true := by rw [beq_toList]; exact decide_eq_true hs
            have HS0 := Lib.hid hs
            clear hs
            go_wp2_with fail
            go_roundw
            case rel =>
              refine ⟨j + 1, q2, m2, by omega, by go_num, HQ2.out, HL2.out, HO2.out, HK2.out, fun k v => ?_⟩
              rw [HH2.out]
              refine and_congr_right fun _ => ⟨?_, ?_⟩
              · rintro (h | h)
                · exact .inl h
                · by_cases hk : k = s0
                  · exact .inl hk
                  · refine .inr fun i hi => ?_
                    rcases Nat.lt_succ_iff_lt_or_eq.1 hi with h1 | rfl
                    · exact h i h1
                    · rw [← HE2.out, HS0.out]; exact hk
              · rintro (h | h)
                · exact .inl h
                · exact .inr fun i hi => h i (by omega)
            case measure => simp [intOf]; omega
          · have hne : (s.toList == s0.toList) = false := by rw [beq_toList]; exact decide_eq_false hs
            have HS0 := Lib.hid hs
            have HDE := Lib.hid (delete_live HL2.out s HE3.out)
            rw [HQ2.out] at HDE
            clear hs
            go_wp2_with fail
            refine HDE.out.mono ?_
            rintro e w8 ⟨rfl, q3, hq3, hL3, ho3, hk3⟩
            have L3 := Lib.hid hL3
            have O3 : Hid (∀ i, q3.own i → q.own i ∨ w6.heap.size ≤ i) := fun i hi => by
              rcases ho3 i hi with h | h
              · exact HO2.out i h
              · exact .inr (Nat.le_trans HK2.out.size h)
            have K3 : Hid (Kept q.own w6 w8) := HK2.out.join hk3 (fun _ h => h) (fun i hi h => (HO2.out i h).resolve_right (by omega))
            have HQ3 := Lib.hid (hq3.trans HQ2.out)
            clear hL3 ho3 hk3 hq3
            go_wp2_with fail
            go_roundw
            case rel =>
              refine ⟨j + 1, q3, _, by omega, by go_num, HQ3.out, L3.out, O3.out, K3.out, fun k v => ?_⟩
              rw [del_has HL2.out.inv, HH2.out]
              constructor
              · rintro ⟨h1, h2, h3⟩
                refine ⟨h2, h3.imp id fun h i hi => ?_⟩
                rcases Nat.lt_succ_iff_lt_or_eq.1 hi with h4 | rfl
                · exact h i h4
                · rw [← HE2.out]; exact h1
              · rintro ⟨h2, h3⟩
                refine ⟨fun e => ?_, h2, h3.imp id fun h i hi => h i (by omega)⟩
                rcases h3 with h3 | h3
                · exact HS0.out (e.symm.trans h3)
                · exact h3 j (by omega) (by rw [← HE2.out]; exact e)
            case measure => simp [intOf]; omega
        · obtain rfl : j = n := by omega
          have hd2 : decide ((j : Int) < (j : Int)) = false := decide_eq_false (by omega)
          have hall : ∀ k v, Has m2 k v ↔ Has m k v ∧ k = s0 := fun k v => by
            rw [HH2.out]
            refine and_congr_right fun h => ⟨fun h1 => h1.resolve_right fun h2 => ?_, .inl⟩
            obtain ⟨i, hi, e⟩ := List.getElem_of_mem (mem_keysL.2 ⟨v, h⟩)
            have hl := keysL_len HLq.out.inv
            exact h2 i (by rw [HNN.out]; omega) (by rw [List.getD_eq_getElem?_getD, List.getElem?_eq_getElem hi, ← e]; rfl)
          have hone := one_left HLq.out.inv HL2.out.inv E5.out hall
          have hnx : nextL (hashN 0 0) m2 rest = ((ByteArray.empty, default, false), []) := nextL_none fun k hk => getV_none HL2.out.inv fun v hv => by
            have e := ((hall k v).1 hv).2
            subst e
            have := keysL_nodup HLq.out.inv
            rw [HKS.out] at this
            exact (List.nodup_cons.1 this).1 hk
          have W7 : Hid (Wk wr wC.heap.size b q2.b rest) := by
            have := W6.out.kept HK2.out hqo.out
            rw [HQ.out, ← HQ2.out] at this
            exact this
          have HNB : Hid (¬ q2.own b) := fun h => by
            rcases HO2.out b h with h | h
            · exact hqo.out b hbl h
            · have := HBU.out; have := S56.out; omega
          have HNA := Lib.hid (next_any q2 0 0 m2 b rest wr w.heap.size HL2.out wC.heap.size W7.out (fun k hk => by obtain ⟨v, hv⟩ := mem_keysL.1 (show k ∈ keysL m by rw [HKS.out]; exact List.mem_cons_of_mem _ hk); exact HLq.out.keys k v hv) HNB.out (by omega))
          rw [hnx] at HNA
          have HONE := Lib.hid hone
          clear hall hnx hone
          go_wp2_with fail
          refine HNA.out.mono ?_
          rintro e w8 ⟨rfl, hwk, hk8⟩
          have W8 := Lib.hid hwk
          have HLE := Lib.hid (len_any q2 0 0 m2 w8 (HL2.out.at_.kept hk8 (fun j hj e => HNB.out (e ▸ hj))) HL2.out.len)
          have HLF := Lib.hid (left_any wC.heap.size b q2.b [] w8 hwk)
          rw [HQ2.out, HONE.out] at HLE
          have B8 : Hid (Below w.heap.size w w8) := B7.out.trans (hk8.below B7.out.size (fun i _ e => by omega))
          clear hwk hk8
          go_wp2_with fail
          refine HLE.out.mono ?_
          rintro e w9 ⟨rfl, rfl⟩
          go_wp2_with fail
          refine HLF.out.mono ?_
          rintro e w9 ⟨rfl, rfl⟩
          go_wp2
          go_ret
          exact ⟨rfl, B8.out⟩
end Go.Proofs.YtcooapflofiolaaDoor.MS

/- What WalkOnce needs of the plain map: which keys were told, which are gone. -/
namespace Go.Proofs.YtcooapflofiolaaDoor.MS
open Go Go.RowKit Go.Shelf
set_option linter.unusedVariables false
set_option linter.unusedSectionVars false
section
variable {H : ByteArray → Nat} {m : Mp VT}
theorem getV_of {k v : ByteArray} (I : MInv H m) (h : Has m k v) : getV H m k = (v, true) := by
  unfold getV
  cases hf : find H m k with
  | none => exact absurd hf ((find_has I).1 ⟨v, h⟩)
  | some x => rw [(find_val I hf).1 h]
theorem getV_no {k : ByteArray} (I : MInv H m) (h : (getV H m k).2 = false) : ¬ ∃ v, Has m k v := fun ⟨v, hv⟩ => by rw [getV_of I hv] at h; cases h
theorem getV_true {k : ByteArray} (h : (getV H m k).2 = true) : getV H m k = ((getV H m k).1, true) := by rw [← h]
theorem nextL_spec : ∀ (l : List ByteArray), (∃ (i : Nat) (k : ByteArray), l[i]? = some k ∧ (getV H m k).2 = true ∧ (∀ (j : Nat) (u : ByteArray), j < i → l[j]? = some u → (getV H m u).2 = false) ∧ nextL H m l = ((k, (getV H m k).1, true), l.drop (i + 1))) ∨ ((∀ (j : Nat) (u : ByteArray), l[j]? = some u → (getV H m u).2 = false) ∧ nextL H m l = ((ByteArray.empty, default, false), []))
  | [] => .inr ⟨fun j u h => by simp at h, rfl⟩
  | a :: r => by
    cases hg : (getV H m a).2 with
    | true => exact .inl ⟨0, a, rfl, hg, fun j u h => by omega, by unfold nextL; rw [if_pos hg]; rfl⟩
    | false =>
      have hn : nextL H m (a :: r) = nextL H m r := by
        conv => lhs; unfold nextL
        rw [if_neg (by rw [hg]; decide)]
      rcases nextL_spec r with ⟨i, k, h1, h2, h3, h4⟩ | ⟨h1, h2⟩
      · refine .inl ⟨i + 1, k, h1, h2, fun j u hj hu => ?_, by rw [hn, h4]; rfl⟩
        match j with
        | 0 => simp at hu; subst hu; exact hg
        | j + 1 => exact h3 j u (by omega) hu
      · refine .inr ⟨fun j u hu => ?_, by rw [hn, h2]⟩
        match j with
        | 0 => simp at hu; subst hu; exact hg
        | j + 1 => exact h1 j u hu
theorem put_stays (I : MInv H m) (key v k : ByteArray) (h : ∃ u, Has m k u) : ∃ u, Has (put H m key v) k u := by
  obtain ⟨u, hu⟩ := h
  by_cases hn : m.n < 2000 ∨ find H m key ≠ none
  · by_cases hk : k = key
    · exact ⟨v, (put_has I hn k v).2 (by rw [if_pos hk])⟩
    · exact ⟨u, (put_has I hn k u).2 (by rw [if_neg hk]; exact hu)⟩
  · rw [put_full (Classical.not_not.1 fun h => hn (.inr h)) (Nat.le_of_not_lt fun h => hn (.inl h))]
    exact ⟨u, hu⟩
/-- How far a walk over the keys B has come: which were told, which are gone. -/
structure Tk (m : Mp VT) (B : List ByteArray) (d : Nat) (g : Nat → Bool) (t : Nat → Nat) : Prop where
  le : d ≤ B.length
  pre : ∀ j, j < d → t j = 1 ∨ (t j = 0 ∧ g j = true)
  post : ∀ j, d ≤ j → t j = 0
  here : ∀ j k, B[j]? = some k → g j = false → ∃ v, Has m k v
variable {B : List ByteArray} {d : Nat} {g : Nat → Bool} {t : Nat → Nat}
theorem Tk.zero (I : MInv H m) : Tk m (keysL m) 0 (fun _ => false) (fun _ => 0) :=
  ⟨Nat.zero_le _, fun j h => by omega, fun _ _ => rfl, fun j k h _ => mem_keysL.1 (List.mem_of_getElem? h)⟩
theorem Tk.put (h : Tk m B d g t) (I : MInv H m) (key v : ByteArray) : Tk (put H m key v) B d g t :=
  ⟨h.le, h.pre, h.post, fun j k hk hg => put_stays I key v k (h.here j k hk hg)⟩
def goneF (B : List ByteArray) (key : ByteArray) (g : Nat → Bool) (j : Nat) : Nat → Bool := fun i => if i < j then g i || decide (B.getD i default = key) else g i
theorem goneF_succ (B : List ByteArray) (key : ByteArray) (g : Nat → Bool) {j : Nat} {s : ByteArray} (hs : B[j]? = some s) {v : Bool} (hv : v = (g j || decide (s = key))) (i : Nat) : goneF B key g (j + 1) i = if i = j then v else goneF B key g j i := by
  unfold goneF
  by_cases hi : i = j
  · subst hi
    rw [if_pos (by omega), if_pos rfl, hv, List.getD_eq_getElem?_getD, hs]; rfl
  · rw [if_neg hi]
    by_cases h2 : i < j
    · rw [if_pos (by omega), if_pos h2]
    · rw [if_neg (by omega), if_neg h2]
theorem Tk.del (h : Tk m B d g t) (I : MInv H m) (key : ByteArray) : Tk (del H m key) B d (goneF B key g B.length) t := by
  refine ⟨h.le, fun j hj => ?_, h.post, fun j k hk hg => ?_⟩
  · rcases h.pre j hj with h1 | ⟨h1, h2⟩
    · exact .inl h1
    · refine .inr ⟨h1, ?_⟩
      unfold goneF
      rw [h2]
      split <;> rfl
  · have hj := (List.getElem?_eq_some_iff.1 hk).1
    unfold goneF at hg
    rw [if_pos hj, Bool.or_eq_false_iff] at hg
    obtain ⟨v, hv⟩ := h.here j k hk hg.1
    refine ⟨v, (del_has I k v).2 ⟨fun e => ?_, hv⟩⟩
    have := hg.2
    rw [List.getD_eq_getElem?_getD, hk] at this
    simp at this
    exact this e
def toldF (t : Nat → Nat) (x : Nat) (j : Nat) : Nat → Nat := fun i => if i = x ∧ x < j then t i + 1 else t i
theorem toldF_succ (t : Nat → Nat) (x j i : Nat) : toldF t x (j + 1) i = if i = j then (if j = x then t j + 1 else t j) else toldF t x j i := by
  unfold toldF
  by_cases hi : i = j
  · subst hi
    rw [if_pos rfl]
    by_cases h2 : i = x
    · rw [if_pos ⟨h2, by omega⟩, if_pos h2]
    · rw [if_neg (fun e => h2 e.1), if_neg h2]
  · rw [if_neg hi]
    by_cases h2 : i = x ∧ x < j
    · rw [if_pos ⟨h2.1, by omega⟩, if_pos h2]
    · rw [if_neg (fun e => h2 ⟨e.1, by omega⟩), if_neg h2]
/-- What Next tells, and how far the walk then is. -/
theorem Tk.next (h : Tk m B d g t) (I : MInv H m) :
    (∃ x k, x < B.length ∧ d ≤ x ∧ B[x]? = some k ∧ t x = 0 ∧ (getV H m k).2 = true ∧ nextL H m (B.drop d) = ((k, (getV H m k).1, true), B.drop (x + 1)) ∧ Tk m B (x + 1) g (toldF t x B.length)) ∨
    (nextL H m (B.drop d) = ((ByteArray.empty, default, false), []) ∧ Tk m B B.length g t) := by
  rcases nextL_spec (H := H) (m := m) (B.drop d) with ⟨i, k, h1, h2, h3, h4⟩ | ⟨h1, h2⟩
  · rw [List.getElem?_drop] at h1
    have hx := (List.getElem?_eq_some_iff.1 h1).1
    refine .inl ⟨d + i, k, hx, by omega, h1, h.post _ (by omega), h2, by rw [h4, List.drop_drop, Nat.add_assoc], ⟨by omega, fun j hj => ?_, fun j hj => ?_, h.here⟩⟩
    · unfold toldF
      by_cases hjx : j = d + i
      · rw [if_pos ⟨hjx, hx⟩, h.post j (by omega)]; exact .inl rfl
      · rw [if_neg (fun e => hjx e.1)]
        by_cases hjd : j < d
        · exact h.pre j hjd
        · refine .inr ⟨h.post j (by omega), ?_⟩
          have hjl : j < B.length := by omega
          have := h3 (j - d) B[j] (by omega) (by rw [List.getElem?_drop, show d + (j - d) = j by omega, List.getElem?_eq_getElem hjl])
          cases hg : g j with
          | true => rfl
          | false => exact absurd (h.here j B[j] (List.getElem?_eq_getElem hjl) hg) (getV_no I this)
    · unfold toldF
      rw [if_neg (by omega)]
      exact h.post j (by omega)
  · refine .inr ⟨h2, ⟨Nat.le_refl _, fun j hj => ?_, fun j hj => h.post j (by have := h.le; omega), h.here⟩⟩
    by_cases hjd : j < d
    · exact h.pre j hjd
    · refine .inr ⟨h.post j (by omega), ?_⟩
      have := h1 (j - d) B[j] (by rw [List.getElem?_drop, show d + (j - d) = j by omega, List.getElem?_eq_getElem hj])
      cases hg : g j with
      | true => rfl
      | false => exact absurd (h.here j B[j] (List.getElem?_eq_getElem hj) hg) (getV_no I this)
end
/-- Rows of bools and of numbers that functions tell. -/
def rowB (g : Nat → Bool) (n : Nat) : List Value := (List.range n).map fun i => .bool (g i)
def rowI (t : Nat → Nat) (n : Nat) : List Value := (List.range n).map fun i => .int .i64 (t i : Nat)
theorem rowB_at (g : Nat → Bool) {n j : Nat} (h : j < n) : (rowB g n)[j]? = some (.bool (g j)) := by simp [rowB, h]
theorem rowI_at (t : Nat → Nat) {n j : Nat} (h : j < n) : (rowI t n)[j]? = some (.int .i64 (t j : Nat)) := by simp [rowI, h]
theorem rowB_set (g g' : Nat → Bool) (n j : Nat) (v : Bool) (h : ∀ i, i < n → g' i = if i = j then v else g i) : (rowB g n).set j (.bool v) = rowB g' n := by
  apply List.ext_getElem?
  intro i
  by_cases hi : i < n
  · rw [rowB_at g' hi, h i hi, List.getElem?_set]
    by_cases e : j = i
    · subst e; simp [rowB, hi]
    · rw [if_neg e, if_neg (fun h => e h.symm), rowB_at g hi]
  · rw [List.getElem?_eq_none (by simp [rowB]; omega), List.getElem?_eq_none (by simp [rowB]; omega)]
theorem rowI_set (g g' : Nat → Nat) (n j : Nat) (v : Nat) (h : ∀ i, i < n → g' i = if i = j then v else g i) : (rowI g n).set j (.int .i64 (v : Nat)) = rowI g' n := by
  apply List.ext_getElem?
  intro i
  by_cases hi : i < n
  · rw [rowI_at g' hi, h i hi, List.getElem?_set]
    by_cases e : j = i
    · subst e; simp [rowI, hi]
    · rw [if_neg e, if_neg (fun h => e h.symm), rowI_at g hi]
  · rw [List.getElem?_eq_none (by simp [rowI]; omega), List.getElem?_eq_none (by simp [rowI]; omega)]
theorem rowB_congr {g g' : Nat → Bool} {n : Nat} (h : ∀ i, i < n → g i = g' i) : rowB g n = rowB g' n := by
  unfold rowB
  exact List.map_congr_left fun i hi => by rw [h i (List.mem_range.1 hi)]
theorem rowI_congr {g g' : Nat → Nat} {n : Nat} (h : ∀ i, i < n → g i = g' i) : rowI g n = rowI g' n := by
  unfold rowI
  exact List.map_congr_left fun i hi => by rw [h i (List.mem_range.1 hi)]
end Go.Proofs.YtcooapflofiolaaDoor.MS

/- Rows of one's own that lie apart: what an append to one leaves of the other. -/
namespace Go.Proofs.YtcooapflofiolaaDoor
open Go Go.RowKit Go.Shelf
set_option linter.unusedVariables false
set_option linter.unusedSimpArgs false
set_option linter.unusedSectionVars false
/-- A row is left as it is by what changes other blocks. -/
theorem own_sep {w w' : World} {base e size n : Nat} {v : Value} {xs : List Value} {S : Nat → Prop} (h : w.ownsRow base e size v n xs) (hk : Kept S w w') (hs : ∀ r, v.ownBlock = some r → ¬ S r) : w'.ownsRow base e size v n xs := by
  refine ⟨h.1, ?_⟩
  rcases h.2 with h0 | ⟨g, cap, cur, h1, h2, h3, h4⟩
  · exact .inl h0
  · exact .inr ⟨g, cap, cur, h1, h2, (hk.block g (Array.getElem?_eq_some_iff.1 h3).1 (hs g (by rw [h1]; rfl))).trans h3, h4⟩
theorem own_grown {w w' : World} {base e size n : Nat} {v : Value} {xs : List Value} {row : Option Nat} (h : w.ownsRow base e size v n xs) (hg : w.grownBy w' row) (hs : ∀ r, v.ownBlock = some r → row ≠ some r) : w'.ownsRow base e size v n xs := by
  refine ⟨h.1, ?_⟩
  rcases h.2 with h0 | ⟨g, cap, cur, h1, h2, h3, h4⟩
  · exact .inl h0
  · exact .inr ⟨g, cap, cur, h1, h2, (hg.block g (Array.getElem?_eq_some_iff.1 h3).1 (fun e => hs g (by rw [h1]; rfl) e.symm)).trans h3, h4⟩
theorem own_lt {w : World} {base e size n : Nat} {v : Value} {xs : List Value} (h : w.ownsRow base e size v n xs) {r : Nat} (hr : v.ownBlock = some r) : base ≤ r ∧ r < w.heap.size := by
  rcases h.2 with ⟨h0, _⟩ | ⟨g, cap, cur, h1, h2, h3, h4⟩
  · rw [h0] at hr; cases hr
  · rw [h1] at hr
    injection hr with hr
    subst hr
    exact ⟨h2, (Array.getElem?_eq_some_iff.1 h3).1⟩
theorem Kept.grown {S : Nat → Prop} {a w w' : World} {row : Option Nat} (h : Kept S a w) (hg : w.grownBy w' row) (hr : ∀ r, row = some r → S r ∨ a.heap.size ≤ r) : Kept S a w' :=
  ⟨hg.os.trans h.os, hg.tape.trans h.tape, hg.output.trans h.output, Nat.le_trans h.size hg.size, fun i hi hn => (hg.block i (Nat.lt_of_lt_of_le hi h.size) (fun e => by
    rcases hr i e.symm with h1 | h1
    · exact hn h1
    · omega)).trans (h.block i hi hn)⟩
/-- An append of a region that draws its order, to a row of one's own: what it leaves of all other blocks, and where the new row lies. -/
theorem step_own_at {P : Program} {ops : Array Oper} {o : Oper} {a : Act} {w : World} {K : Act → World → Prop} {Q : Exit → Act → World → Prop} {E : Prop} (hgd : o.guard = none) (s x : Operand) (t : TypeId)
    (ho : o.op = .call { callee := .builtin .append, args := #[s, x], argTypes := #[t, t] }) (base e : Nat) (z : Value) (size bytes : Nat) (ht : P.underlying t = some (.slice e))
    (hinfo : (P.info? e).map (fun i => (i.zero, i.size, i.bytes)) = some (some z, size, bytes)) (hzs : z.cells.size = size) (hsz : 0 < size)
    (v : Value) (n : Nat) (xs : List Value) (hs : a.eval s = v) (hX : w.ownsRow base e size v n xs) (hb : base ≤ w.heap.size)
    (q : Addr) (m c : Nat) (hx : a.eval x = .slice (some q) m c) (ys : List Value) (hl : ys.length = m * size) (hY : ∀ j u, ys[j]? = some u → w.cell? (q.add j) = some u) (h1 : ∀ u ∈ ys, u.oneCell' = true)
    (h63 : n + m ≤ maxLen) (hbytes : (n + m) * bytes ≤ 140737488355328)
    (h : ∀ v' w', w'.ownsRow base e size v' (n + m) (xs ++ ys) → w.grownBy w' v.ownBlock → (v'.ownBlock = v.ownBlock ∨ v'.ownBlock = some w.heap.size) → K (a.put o.dst v') w') :
    if Region.wanted o (yielded ops a.tmps) = true then Oper.wp P o a w K Q else E := by
  have hw : Region.wanted o (yielded ops a.tmps) = true := by simp [Region.wanted, hgd]
  rw [if_pos hw]
  obtain ⟨i0, hi, hz0, hz1, hz2⟩ := info_parts hinfo
  obtain ⟨v', w', hr, h2, h3, _, h5⟩ := run_append_own_at (P := P) w base t o.type e i0 z size bytes ht hi hz0 hz1 hz2 hzs hsz v n xs hX q m c ys hl hY h1 h63 hbytes hb
  unfold Oper.wp execOp
  simp only [ho, resolve, invoke, builtin, Sem.run_bind, Sem.run_pure, Result.andThen_ok, List.map_toArray, List.map_cons, List.map_nil, hs, hx, hr]
  exact h v' w' h2 h3 h5
/-- Two rows of texts of one's own, apart from one another and from what 'S' holds. -/
structure Two (w : World) (base : Nat) (S : Nat → Prop) (v u : Value) (n : Nat) (xs ys : List Value) : Prop where
  r1 : w.ownsRow base 9 1 v n xs
  r2 : w.ownsRow base 9 1 u n ys
  ne : ∀ r, v.ownBlock = some r → u.ownBlock ≠ some r
  s1 : ∀ r, v.ownBlock = some r → ¬ S r
  s2 : ∀ r, u.ownBlock = some r → ¬ S r
theorem Two.nil (w : World) (base : Nat) (S : Nat → Prop) : Two w base S (.slice none 0 0) (.slice none 0 0) 0 [] [] :=
  ⟨World.ownsRow_nil _ _ _ _, World.ownsRow_nil _ _ _ _, fun r h => (by cases h), fun r h => (by cases h), fun r h => (by cases h)⟩
/-- What acts on a map leave of the two rows. -/
theorem Two.kept {w w' : World} {base n : Nat} {S T : Nat → Prop} {v u : Value} {xs ys : List Value} (h : Two w base S v u n xs ys) (hk : Kept T w w') (hT : ∀ j, T j → S j) (S' : Nat → Prop) (hS : ∀ j, S' j → S j ∨ w.heap.size ≤ j) : Two w' base S' v u n xs ys :=
  ⟨own_sep h.r1 hk (fun r hr e => h.s1 r hr (hT r e)), own_sep h.r2 hk (fun r hr e => h.s2 r hr (hT r e)), h.ne,
   fun r hr e => by
    rcases hS r e with h1 | h1
    · exact h.s1 r hr h1
    · have := (own_lt h.r1 hr).2; omega,
   fun r hr e => by
    rcases hS r e with h1 | h1
    · exact h.s2 r hr h1
    · have := (own_lt h.r2 hr).2; omega⟩
end Go.Proofs.YtcooapflofiolaaDoor

/- What WalkOnce holds in memory: a walk, the keys it began with, which are gone, which were told. -/
namespace Go.Proofs.YtcooapflofiolaaDoor.MS
open Go Go.RowKit Go.Shelf
set_option linter.unusedVariables false
set_option linter.unusedSimpArgs false
set_option linter.unusedSectionVars false
set_option maxRecDepth 100000
structure WO (w : World) (wK wS hi b pb : Nat) (vB vG vT : Value) (B : List ByteArray) (g : Nat → Bool) (t : Nat → Nat) (l : List ByteArray) : Prop where
  rb : w.ownsRow wK 9 1 vB B.length (textsV B)
  rg : w.ownsRow wK 4 1 vG B.length (rowB g B.length)
  rt : w.ownsRow wK 3 1 vT B.length (rowI t B.length)
  wk : Wr w (fun j => wS ≤ j ∧ j < hi) b pb l
  lb : ∀ r, vB.ownBlock = some r → r < wS
  lg : ∀ r, vG.ownBlock = some r → r < wS
  lt : ∀ r, vT.ownBlock = some r → r < wS
  bg : ∀ r, vB.ownBlock = some r → vG.ownBlock ≠ some r
  bt : ∀ r, vB.ownBlock = some r → vT.ownBlock ≠ some r
  gt : ∀ r, vG.ownBlock = some r → vT.ownBlock ≠ some r
  le : wK ≤ wS ∧ wS ≤ hi
section
variable {w w' : World} {wK wS hi b pb : Nat} {vB vG vT : Value} {B : List ByteArray} {g g' : Nat → Bool} {t t' : Nat → Nat} {l l' : List ByteArray}
theorem WO.kept (h : WO w wK wS hi b pb vB vG vT B g t l) {S : Nat → Prop} (hk : Kept S w w') (hs : ∀ j, wK ≤ j → j < hi → ¬ S j) : WO w' wK wS hi b pb vB vG vT B g t l :=
  have hl := h.le
  ⟨own_sep h.rb hk (fun r hr => hs r (own_lt h.rb hr).1 (by have := h.lb r hr; omega)),
   own_sep h.rg hk (fun r hr => hs r (own_lt h.rg hr).1 (by have := h.lg r hr; omega)),
   own_sep h.rt hk (fun r hr => hs r (own_lt h.rt hr).1 (by have := h.lt r hr; omega)),
   h.wk.kept hk (fun j hj => hs j (by omega) hj.2), h.lb, h.lg, h.lt, h.bg, h.bt, h.gt, h.le⟩
theorem WO.below (h : WO w wK wS hi b pb vB vG vT B g t l) (hb : Below w.heap.size w w') : WO w' wK wS hi b pb vB vG vT B g t l :=
  h.kept (Kept.of (S := fun _ => False) hb (Nat.le_refl _)) (fun _ _ _ h => h)
theorem WO.drew (h : WO w wK wS hi b pb vB vG vT B g t l) : WO w.drew wK wS hi b pb vB vG vT B g t l := h.kept (S := fun _ => False) (Kept.drew (Kept.refl _ _)) (fun _ _ _ h => h)
theorem WO.hb (h : WO w wK wS hi b pb vB vG vT B g t l) : wS ≤ b ∧ b < hi := by
  obtain ⟨a, c, h1, h2, h3, h4, h5⟩ := h.wk
  exact h5
theorem WO.next (h : WO w wK wS hi b pb vB vG vT B g t l) (hk : Kept (· = b) w w') (hw : Wr w' (fun j => wS ≤ j ∧ j < hi) b pb l') : WO w' wK wS hi b pb vB vG vT B g t l' :=
  have hb := h.hb
  ⟨own_sep h.rb hk (fun r hr e => by have := h.lb r hr; have : r = b := e; omega),
   own_sep h.rg hk (fun r hr e => by have := h.lg r hr; have : r = b := e; omega),
   own_sep h.rt hk (fun r hr e => by have := h.lt r hr; have : r = b := e; omega),
   hw, h.lb, h.lg, h.lt, h.bg, h.bt, h.gt, h.le⟩
theorem WO.setG {gg n c j : Nat} (h : WO w wK wS hi b pb vB (.slice (some ⟨gg, 0, none⟩) n c) vT B g t l) (v : Bool) (hn : n = B.length) (hg : ∀ i, i < B.length → g' i = if i = j then v else g i) :
    WO (w.setCell ⟨gg, j, none⟩ (.bool v)) wK wS hi b pb vB (.slice (some ⟨gg, 0, none⟩) n c) vT B g' t l := by
  subst hn
  have hl := h.le
  have hgs := h.lg gg rfl
  have hk : Kept (fun r => r = gg) w (w.setCell ⟨gg, j, none⟩ (.bool v)) := (Kept.refl (fun r => r = gg) w).setCell (p := ⟨gg, j, none⟩) (.inl rfl) _
  refine ⟨own_sep h.rb hk (fun r hr e => h.bg r hr (by rw [e]; rfl)), ?_, own_sep h.rt hk (fun r hr e => h.gt gg rfl (by rw [← e]; exact hr)), h.wk.kept hk (fun r hr e => by have := hr.1; have : r = gg := e; omega), h.lb, h.lg, h.lt, h.bg, h.bt, h.gt, h.le⟩
  have := (h.rg.stored j (.bool v)).1
  rw [rowB_set g g' _ j v hg] at this
  exact this
theorem WO.setT {gt n c j : Nat} (h : WO w wK wS hi b pb vB vG (.slice (some ⟨gt, 0, none⟩) n c) B g t l) (v : Nat) (hn : n = B.length) (hg : ∀ i, i < B.length → t' i = if i = j then v else t i) :
    WO (w.setCell ⟨gt, j, none⟩ (.int .i64 (v : Nat))) wK wS hi b pb vB vG (.slice (some ⟨gt, 0, none⟩) n c) B g t' l := by
  subst hn
  have hl := h.le
  have hgs := h.lt gt rfl
  have hk : Kept (fun r => r = gt) w (w.setCell ⟨gt, j, none⟩ (.int .i64 (v : Nat))) := (Kept.refl (fun r => r = gt) w).setCell (p := ⟨gt, j, none⟩) (.inl rfl) _
  refine ⟨own_sep h.rb hk (fun r hr e => h.bt r hr (by rw [e]; rfl)), own_sep h.rg hk (fun r hr e => h.gt r hr (by rw [e]; rfl)), ?_, h.wk.kept hk (fun r hr e => by have := hr.1; have : r = gt := e; omega), h.lb, h.lg, h.lt, h.bg, h.bt, h.gt, h.le⟩
  have := (h.rt.stored j (.int .i64 (v : Nat))).1
  rw [rowI_set t t' _ j v hg] at this
  exact this
theorem WO.congr (h : WO w wK wS hi b pb vB vG vT B g t l) (hg : ∀ i, i < B.length → g i = g' i) (ht : ∀ i, i < B.length → t i = t' i) : WO w wK wS hi b pb vB vG vT B g' t' l :=
  ⟨h.rb, by rw [← rowB_congr hg]; exact h.rg, by rw [← rowI_congr ht]; exact h.rt, h.wk, h.lb, h.lg, h.lt, h.bg, h.bt, h.gt, h.le⟩
end
theorem info4 : (Tryd.prog.info? 4).map (fun i => (i.zero, i.size, i.bytes)) = some (some (.bool false), 1, 1) := by kernel_rfl
theorem info3 : (Tryd.prog.info? 3).map (fun i => (i.zero, i.size, i.bytes)) = some (some (.int .i64 0), 1, 8) := by kernel_rfl
theorem mk_bools (n : Nat) (hn : n ≤ 100000) (W : World) : (Instr.makeSlice 58 (.int .i64 (n : Nat)) (.int .i64 (n : Nat))).run Tryd.prog W = .ok (.slice (some ⟨W.heap.size, 0, none⟩) n n) (W.alloc (.cells (madeCells #[.bool false] n) 4)) := by
  obtain ⟨i0, hi, hz0, hz1, hz2⟩ := info_parts info4
  have := run_make (P := Tryd.prog) W 58 4 i0 _ Tryd.underlying58 hi hz0 .i64 .i64 n n (by omega) (Int.le_refl _) (by rw [hz2]; omega) (by omega)
  rw [hz1] at this
  simpa [Value.cells] using this
theorem mk_ints (n : Nat) (hn : n ≤ 100000) (W : World) : (Instr.makeSlice 59 (.int .i64 (n : Nat)) (.int .i64 (n : Nat))).run Tryd.prog W = .ok (.slice (some ⟨W.heap.size, 0, none⟩) n n) (W.alloc (.cells (madeCells #[.int .i64 0] n) 3)) := by
  obtain ⟨i0, hi, hz0, hz1, hz2⟩ := info_parts info3
  have := run_make (P := Tryd.prog) W 59 3 i0 _ Tryd.underlying59 hi hz0 .i64 .i64 n n (by omega) (Int.le_refl _) (by rw [hz2]; omega) (by omega)
  rw [hz1] at this
  simpa [Value.cells] using this
theorem own_bools (n base : Nat) (hn : n ≤ 100000) (W : World) (hb : base ≤ W.heap.size) : (W.alloc (.cells (madeCells #[.bool false] n) 4)).ownsRow base 4 1 (.slice (some ⟨W.heap.size, 0, none⟩) n n) n (rowB (fun _ => false) n) := by
  have := World.ownsRow_lit (base := base) (e := 4) (size := 1) W (madeCells #[.bool false] n) n hb (by simp only [maxLen]; omega) (by rw [size_madeCells]; omega)
  rw [toList_madeCells_one] at this
  rw [show rowB (fun _ => false) n = List.replicate n (.bool false) by unfold rowB; simp [List.map_const']]
  exact this
theorem own_ints (n base : Nat) (hn : n ≤ 100000) (W : World) (hb : base ≤ W.heap.size) : (W.alloc (.cells (madeCells #[.int .i64 0] n) 3)).ownsRow base 3 1 (.slice (some ⟨W.heap.size, 0, none⟩) n n) n (rowI (fun _ => 0) n) := by
  have := World.ownsRow_lit (base := base) (e := 3) (size := 1) W (madeCells #[.int .i64 0] n) n hb (by simp only [maxLen]; omega) (by rw [size_madeCells]; omega)
  rw [toList_madeCells_one] at this
  rw [show rowI (fun _ => 0) n = List.replicate n (.int .i64 0) by unfold rowI; simp [List.map_const']]
  exact this
theorem WO.start {wC w6 w7 w8 w9 : World} {b pb n0 : Nat} {vB : Value} {B : List ByteArray} (hn : B.length = n0) (RB : w6.ownsRow wC.heap.size 9 1 vB n0 (textsV B)) (LB6 : Below wC.heap.size wC w6)
    (RG : w7.ownsRow wC.heap.size 4 1 (.slice (some ⟨w6.heap.size, 0, none⟩) n0 n0) n0 (rowB (fun _ => false) n0)) (RT : w8.ownsRow wC.heap.size 3 1 (.slice (some ⟨w7.heap.size, 0, none⟩) n0 n0) n0 (rowI (fun _ => 0) n0))
    (LB7 : Below w6.heap.size w6 w7) (LB8 : Below w7.heap.size w7 w8) (Z7 : w7.heap.size = w6.heap.size + 1) (Z8 : w8.heap.size = w7.heap.size + 1) (hwk : Wr w9 (fun j => w8.heap.size ≤ j ∧ j < w9.heap.size) b pb B) (hb : Below w8.heap.size w8 w9) :
    WO w9 wC.heap.size w8.heap.size w9.heap.size b pb vB (.slice (some ⟨w6.heap.size, 0, none⟩) n0 n0) (.slice (some ⟨w7.heap.size, 0, none⟩) n0 n0) B (fun _ => false) (fun _ => 0) (B.drop 0) := by
  subst hn
  have z6 := LB6.size
  have z9 := hb.size
  have hlB : ∀ r, vB.ownBlock = some r → r < w6.heap.size := fun r hr => (own_lt RB hr).2
  exact ⟨own_below (own_below (own_below RB (Nat.le_refl _) LB7) (Nat.le_refl _) LB8) (Nat.le_refl _) hb, own_below (own_below RG (Nat.le_refl _) LB8) (Nat.le_refl _) hb, own_below RT (Nat.le_refl _) hb, hwk,
    fun r hr => by have := hlB r hr; omega, fun r hr => by have : w6.heap.size = r := Option.some.inj hr; omega, fun r hr => by have : w7.heap.size = r := Option.some.inj hr; omega,
    fun r hr e => by have := hlB r hr; have : w6.heap.size = r := Option.some.inj e; omega, fun r hr e => by have := hlB r hr; have : w7.heap.size = r := Option.some.inj e; omega, fun r hr e => by have h1 : w6.heap.size = r := Option.some.inj hr; have h2 : w7.heap.size = r := Option.some.inj e; omega, by omega⟩
end Go.Proofs.YtcooapflofiolaaDoor.MS

/- few of chapter 6: are the acts few and short? -/
namespace Go.Proofs.YtcooapflofiolaaDoor
open Go Go.RowKit Go.Shelf
set_option linter.unusedVariables false
set_option linter.unusedSimpArgs false
set_option maxRecDepth 100000
set_option maxHeartbeats 4000000
def Few6 (xs : List Ac) (k : Nat) : Prop := k ≤ 500 ∧ ∀ j, j < k → (xs.getD j default).key.size < 40000 ∧ (xs.getD j default).val.size < 40000
theorem few6_any (s : Option Addr) (n c : Nat) (xs : List Ac) (w : World) (h : AR w s n xs) :
    Calls Tryd.prog 21 #[.slice s n c] w fun e w' => ∃ b : Bool, e = .returned (.bool b) ∧ Below w.heap.size w w' ∧ (b = true → Few6 xs n) := by
  have HA := Lib.hid h
  clear h
  go_enter Tryd.func21, Tryd.ntmps21
  go_wp2
  go_loopw [3, 8] (fun t i wr => ∃ (k u : Nat), k ≤ n ∧ i = .int .i64 k ∧ t = .int .i64 u ∧ k ≤ u ∧ u ≤ 500 ∧ Few6 xs k ∧ Below w.heap.size w wr) (fun t i _ => n - (intOf i).toNat)
  case atStart => exact ⟨0, 0, by omega, rfl, rfl, by omega, by omega, ⟨by omega, fun j hj => by omega⟩, Below.refl _ _⟩
  case round =>
    obtain ⟨k, u, hk, rfl, rfl, hku, hu, hF, hB⟩ := hrel
    have HF := Lib.hid hF
    have HB := Lib.hid hB
    clear hF hB
    by_cases hlt : k < n
    · have hd : decide ((k : Int) < (n : Int)) = true := decide_eq_true (by omega)
      have hkn : (k : Int) < (n : Int) := by omega
      obtain ⟨b, off, rfl, x0, x1, x2⟩ := (HA.out.below (Nat.le_refl _) HB.out).act hlt
      obtain ⟨z1, z2⟩ := HA.out.2.2 k hlt
      obtain ⟨x, hx⟩ : ∃ x, x = xs.getD k default := ⟨_, rfl⟩
      rw [← hx] at x0 x1 x2 z1 z2
      have HX := Lib.hid hx
      clear hx
      have hw1 : IntKind.i64.wrap ((x.key.size : Int) + (x.val.size : Int)) = (x.key.size : Int) + (x.val.size : Int) := IntWalk.i64_in _ (by omega)
      have hw2 : IntKind.i64.wrap (1 + ((x.key.size : Int) + (x.val.size : Int)) / 50) = 1 + ((x.key.size : Int) + (x.val.size : Int)) / 50 := IntWalk.i64_in _ (by omega)
      have hw3 : IntKind.i64.wrap ((u : Int) + (1 + ((x.key.size : Int) + (x.val.size : Int)) / 50)) = (u : Int) + (1 + ((x.key.size : Int) + (x.val.size : Int)) / 50) := IntWalk.i64_in _ (by omega)
      by_cases hbig : 500 < u + (1 + (x.key.size + x.val.size) / 50)
      · have hd2 : decide ((500 : Int) < (u : Int) + (1 + ((x.key.size : Int) + (x.val.size : Int)) / 50)) = true := decide_eq_true (by omega)
        clear hbig
        go_wp2
        go_ret
        exact ⟨false, rfl, HB.out.alloc HB.out.size _, fun h => by cases h⟩
      · have hd2 : decide ((500 : Int) < (u : Int) + (1 + ((x.key.size : Int) + (x.val.size : Int)) / 50)) = false := decide_eq_false (by omega)
        go_wp2
        go_roundw
        case rel =>
          refine ⟨k + 1, u + (1 + (x.key.size + x.val.size) / 50), by omega, by go_num, by go_num, by omega, by omega, ⟨by omega, fun j hj => ?_⟩, HB.out.alloc HB.out.size _⟩
          rcases Nat.lt_succ_iff_lt_or_eq.1 hj with h1 | rfl
          · exact HF.out.2 j h1
          · rw [← HX.out]; omega
        case measure => simp [intOf]; omega
    · obtain rfl : k = n := by omega
      have hd : decide ((k : Int) < (k : Int)) = false := decide_eq_false (by omega)
      go_wp2
      go_ret
      exact ⟨true, rfl, HB.out, fun _ => HF.out⟩
end Go.Proofs.YtcooapflofiolaaDoor

/- The law 'WalkOnce' answers true at every input, and leaves its arguments as they were; the listed table starts as the program's text lays it (the given tie). (The frame was written by a program, after the kit's own frames.) -/
namespace Go.Proofs.YtcooapflofiolaaDoor.walkOnce
open Go.ChangeShapes Go.WideShapes Go.ChangeAt Go.RowKit Go.Shelf Go.Proofs.YtcooapflofiolaaDoor
open Go.ChangeMaps (open_string shut_string)
set_option linter.unusedVariables false
set_option linter.unusedSimpArgs false
set_option maxRecDepth 100000

theorem laidOut : laidOutB Tryd.prog = true := by kernel_rfl

set_option maxHeartbeats 8000000 in
theorem walk (w : World) (hS : Sh w) (a0 b0 : BitVec 64) (s1 : Option Addr) (n1 c1 : Nat) (xs1 : List Ac) (ar1 : AR w s1 n1 xs1) (s2 : Option Addr) (n2 c2 : Nat) (xs2 : List Ac) (ar2 : AR w s2 n2 xs2) :
    Calls Tryd.prog 5 #[.agg #[.int .u64 (Sip.U a0), .int .u64 (Sip.U b0)], .slice s1 n1 c1, .slice s2 n2 c2] w fun e w' => e = .returned (.bool true) ∧ Below w.heap.size w w' := by
  have HAR := Lib.hid ar1
  have HAR2 := Lib.hid ar2
  have HSh := Lib.hid hS
  obtain ⟨w1, hw1⟩ : ∃ w1, w1 = w.alloc (.cells #[.int .u64 (Sip.U a0), .int .u64 (Sip.U b0)] 24) := ⟨_, rfl⟩
  have B1 : Hid (Below w.heap.size w w1) := by rw [hw1]; exact (Below.refl _ w).alloc (Nat.le_refl _) _
  have c0 : w1.cell? ⟨w.heap.size, 0, none⟩ = some (.int .u64 (Sip.U a0)) := by rw [hw1]; simp
  have d1 : w1.cell? ⟨w.heap.size, 1, none⟩ = some (.int .u64 (Sip.U b0)) := by rw [hw1]; simp
  have S1 : Hid (Sh w1) := HSh.out.below B1.out
  have HN := Lib.hid (MS.new_live a0 b0 0 w1 S1.out)
  have HLV : Hid (∀ W, Below w.heap.size w W → Calls Tryd.prog 22 #[] W fun e w' => e = .returned (.bool true) ∧ Below w.heap.size w w') := by
    show ∀ W, _
    intro W hW
    exact (MS.wlives_any W (HSh.out.below hW)).mono fun e w' ⟨h1, h2⟩ => ⟨h1, hW.trans (h2.mono hW.size)⟩
  have hneed : needF 0 = 1 := by rfl
  have HW1 := Lib.hid hw1
  clear hw1 hS ar1 ar2
  go_enter Tryd.func5, Tryd.ntmps5
  go_upto_region 1 with fail
  rw [← HW1.out]
  go_wp2_with fail
  refine HN.out.mono ?_
  rintro e w2 ⟨hb, ⟨h0, _⟩ | ⟨p, g, hg, rfl, hL⟩⟩
  · rw [hneed] at h0; cases h0
  rw [hneed] at hg
  obtain rfl : g = 1 := by omega
  have HL := Lib.hid hL
  have B2 : Hid (Below w.heap.size w w2) := B1.out.trans (hb.mono B1.out.size)
  have HLO : Hid (w.heap.size ≤ w1.heap.size) := B1.out.size
  clear hb hL hg hneed c0 d1
  have HFE := Lib.hid (few6_any s1 n1 c1 xs1 w2 (HAR.out.below (Nat.le_refl _) B2.out))
  go_wp2_with fail
  refine HFE.out.mono ?_
  rintro e w3 ⟨b, rfl, hb3, hfew⟩
  have L3 := Lib.hid (HL.out.below (Nat.le_refl _) hb3)
  have B3 : Hid (Below w.heap.size w w3) := B2.out.trans (hb3.mono B2.out.size)
  have HFew := Lib.hid hfew
  clear hb3 hfew
  cases b
  · go_wp2_with fail
    refine (HLV.out _ B3.out).mono ?_
    rintro e w4 ⟨rfl, hb⟩
    go_wp2
    go_ret
    exact ⟨rfl, hb⟩
  have HFE2 := Lib.hid (few6_any s2 n2 c2 xs2 w3 (HAR2.out.below (Nat.le_refl _) B3.out))
  go_wp2_with fail
  refine HFE2.out.mono ?_
  rintro e w4 ⟨b, rfl, hb4, hfew2⟩
  have L4 := Lib.hid (L3.out.below (Nat.le_refl _) hb4)
  have B4 : Hid (Below w.heap.size w w4) := B3.out.trans (hb4.mono B3.out.size)
  have HFew2 := Lib.hid hfew2
  clear hb4 hfew2
  cases b
  · go_wp2_with fail
    refine (HLV.out _ B4.out).mono ?_
    rintro e w5 ⟨rfl, hb⟩
    go_wp2
    go_ret
    exact ⟨rfl, hb⟩
  have HF : Hid (Few6 xs1 n1) := HFew.out (by simp)
  have HF2 : Hid (Few6 xs2 n2) := HFew2.out (by simp)
  have hn500 : n1 ≤ 500 := HF.out.1
  have hn502 : n2 ≤ 500 := HF2.out.1
  go_wp2
  go_loopw [47] (fun i wr => ∃ (k : Nat) (q : Pl) (m : Mp ByteArray), k ≤ n1 ∧ i = .int .i64 k ∧ q.b = p.b ∧ MS.Live wr w1.heap.size q a0 b0 m ∧ m.n ≤ k ∧ Below w.heap.size w wr) (fun i _ => n1 - (intOf i).toNat)
  case atStart => exact ⟨0, p, _, by omega, rfl, rfl, L4.out, Nat.le_refl _, B4.out⟩
  case round =>
    obtain ⟨k, q, m, hk, rfl, hq, hLq, hmk, hB⟩ := hrel
    have HLq := Lib.hid hLq
    have HBr := Lib.hid hB
    have HQ := Lib.hid hq
    have HMK := Lib.hid hmk
    clear hLq hB hq hmk
    by_cases hlt : k < n1
    · 
      have hd2 : decide ((k : Int) < (n1 : Int)) = true := decide_eq_true (by omega)
      have hkn : (k : Int) < (n1 : Int) := by omega
      obtain ⟨b, off, rfl, x0, x1, x2⟩ := (HAR.out.below (Nat.le_refl _) HBr.out).act hlt
      obtain ⟨x, hx⟩ : ∃ x, x = xs1.getD k default := ⟨_, rfl⟩
      have hxk : x.key.size ≤ maxLen := by
        have h1 := (HF.out.2 k hlt).1
        rw [← hx] at h1
        exact Nat.le_trans (Nat.le_of_lt h1) (by decide : 40000 ≤ maxLen)
      rw [← hx] at x0 x1 x2
      have HXK := Lib.hid hxk
      clear hx hxk
      obtain ⟨wA, hwA⟩ : ∃ wA, wA = wr.alloc (.cells #[.int .i64 x.k, .string x.key, .string x.val] 45) := ⟨_, rfl⟩
      have BA : Hid (Below wr.heap.size wr wA) := by rw [hwA]; exact (Below.refl _ wr).alloc (Nat.le_refl _) _
      have LX := Lib.hid (HLq.out.below (Nat.le_refl _) BA.out)
      have BX : Hid (Below w.heap.size w wA) := HBr.out.trans (BA.out.mono HBr.out.size)
      have y1 : wA.cell? ⟨wr.heap.size, 1, none⟩ = some (.string x.key) := by rw [hwA]; simp
      have y2 : wA.cell? ⟨wr.heap.size, 2, none⟩ = some (.string x.val) := by rw [hwA]; simp
      have HWA := Lib.hid hwA
      clear hwA
      have hpu := MS.put_live LX.out x.key x.val HXK.out
      have hpn := put_n HLq.out.inv x.key x.val (by have := HMK.out; omega)
      rw [HQ.out] at hpu
      have HPU := Lib.hid hpu
      have HPN := Lib.hid hpn.1
      clear hpu hpn
      go_upto_region 7 with fail
      rw [← HWA.out]
      clear x0 x1 x2
      go_wp2_with fail
      refine HPU.out.mono ?_
      rintro e w5 ⟨rfl, q2, hq2, hL2, _, hK2⟩
      have L2 := Lib.hid hL2
      have B5 : Hid (Below w.heap.size w w5) := BX.out.trans ((LX.out.low hK2).mono HLO.out)
      have HQ2 := Lib.hid (hq2.trans HQ.out)
      clear hL2 hK2 hq2
      go_wp2_with fail
      go_roundw
      case rel => exact ⟨k + 1, q2, _, by omega, by go_num, HQ2.out, L2.out, by have := HPN.out; have := HMK.out; omega, B5.out⟩
      case measure => simp [intOf]; omega
    · obtain rfl : k = n1 := by omega
      have hd2 : decide ((k : Int) < (k : Int)) = false := decide_eq_false (by omega)
      obtain ⟨wC, hwC⟩ : ∃ wC, wC = wr := ⟨_, rfl⟩
      rw [← hwC] at HLq HBr ⊢
      clear hwC
      obtain ⟨n0, hn0⟩ : ∃ n0, n0 = m.n := ⟨_, rfl⟩
      have hn0k : n0 ≤ 500 := by have := HMK.out; omega
      have HN0 := Lib.hid hn0
      clear hn0
      have hke := MS.keys_any q a0 b0 m wC HLq.out.at_ HLq.out.inv
      rw [HQ.out, ← HN0.out] at hke
      have HKE := Lib.hid hke
      clear hke
      go_wp2_with fail
      refine HKE.out.mono ?_
      rintro e w6 ⟨vB, rfl, hv, hb⟩
      obtain ⟨ka, kc, rfl, hkc⟩ := own_val hv
      have RB6 := Lib.hid hv
      have LB6 := Lib.hid hb
      clear hv hb
      have hmk1 := MS.mk_bools n0 (by omega)
      have hmk2 := MS.mk_ints n0 (by omega)
      obtain ⟨w7, hw7⟩ : ∃ w7, w7 = w6.alloc (.cells (madeCells #[.bool false] n0) 4) := ⟨_, rfl⟩
      obtain ⟨w8, hw8⟩ : ∃ w8, w8 = w7.alloc (.cells (madeCells #[.int .i64 0] n0) 3) := ⟨_, rfl⟩
      have Z7 : Hid (w7.heap.size = w6.heap.size + 1) := by show _ = _; rw [hw7]; simp
      have Z8 : Hid (w8.heap.size = w7.heap.size + 1) := by show _ = _; rw [hw8]; simp
      have LB7 : Hid (Below w6.heap.size w6 w7) := by rw [hw7]; exact (Below.refl _ w6).alloc (Nat.le_refl _) _
      have LB8 : Hid (Below w7.heap.size w7 w8) := by rw [hw8]; exact (Below.refl _ w7).alloc (Nat.le_refl _) _
      have RG7 : Hid (w7.ownsRow wC.heap.size 4 1 (.slice (some ⟨w6.heap.size, 0, none⟩) n0 n0) n0 (MS.rowB (fun _ => false) n0)) := by rw [hw7]; exact MS.own_bools n0 _ (by omega) w6 LB6.out.size
      have RT8 : Hid (w8.ownsRow wC.heap.size 3 1 (.slice (some ⟨w7.heap.size, 0, none⟩) n0 n0) n0 (MS.rowI (fun _ => 0) n0)) := by rw [hw8]; exact MS.own_ints n0 _ (by omega) w7 (Nat.le_trans LB6.out.size LB7.out.size)
      have L8 : Hid (MS.Live w8 w1.heap.size q a0 b0 m) := ((HLq.out.below (Nat.le_refl _) LB6.out).below (Nat.le_refl _) LB7.out).below (Nat.le_refl _) LB8.out
      have hwn := MS.wnew_r q a0 b0 m w8 L8.out.at_ L8.out.inv
      rw [HQ.out] at hwn
      have HWN := Lib.hid hwn
      have HW7 := Lib.hid hw7
      have HW8 := Lib.hid hw8
      clear hw7 hw8 hwn
      go_upto_region 12 with fail
      rw [← HW7.out, ← HW8.out]
      clear hmk1 hmk2
      go_wp2_with fail
      refine HWN.out.mono ?_
      rintro e w9 ⟨b, rfl, hwk, hb⟩
      obtain ⟨B, hBl⟩ : ∃ B, B = MS.keysL m := ⟨_, rfl⟩
      have hBn : B.length = n0 := by rw [hBl, MS.keysL_len HLq.out.inv, HN0.out]
      have HBN := Lib.hid hBn
      have HBS : Hid (∀ u, u ∈ B → u.size ≤ maxLen) := fun u hu => by
        rw [hBl] at hu
        obtain ⟨v, hv⟩ := MS.mem_keysL.1 hu
        exact HLq.out.keys _ _ hv
      have HBD : Hid (B.Nodup) := by show B.Nodup; rw [hBl]; exact MS.keysL_nodup HLq.out.inv
      have TK : Hid (MS.Tk m B 0 (fun _ => false) (fun _ => 0)) := by show MS.Tk _ _ _ _ _; rw [hBl]; exact MS.Tk.zero HLq.out.inv
      have LB9 := Lib.hid hb
      have Z9 : Hid (w8.heap.size ≤ w9.heap.size) := hb.size
      have L9 : Hid (MS.Live w9 w1.heap.size q a0 b0 m) := L8.out.below (Nat.le_refl _) hb
      have W9 : Hid (MS.WO w9 wC.heap.size w8.heap.size w9.heap.size b p.b (.slice ka n0 kc) (.slice (some ⟨w6.heap.size, 0, none⟩) n0 n0) (.slice (some ⟨w7.heap.size, 0, none⟩) n0 n0) B (fun _ => false) (fun _ => 0) (B.drop 0)) := by
        rw [← hBl] at hwk
        have rb6 := RB6.out
        rw [← hBl] at rb6
        exact MS.WO.start hBn rb6 LB6.out RG7.out RT8.out LB7.out LB8.out Z7.out Z8.out hwk hb
      have B9 : Hid (Below w.heap.size w w9) := (((HBr.out.trans (LB6.out.mono HBr.out.size)).trans (LB7.out.mono (by have := HBr.out.size; have := LB6.out.size; omega))).trans (LB8.out.mono (by have := HBr.out.size; have := LB6.out.size; have := Z7.out; omega))).trans (LB9.out.mono (by have := HBr.out.size; have := LB6.out.size; have := Z7.out; have := Z8.out; omega))
      have O9 : Hid (∀ j, q.own j → j < wC.heap.size ∨ w9.heap.size ≤ j) := fun j hj => .inl (HLq.out.at_.lt hj)
      have ZK : Hid (w1.heap.size ≤ wC.heap.size ∧ 0 < w1.heap.size) := ⟨HLq.out.le, HLq.out.pos⟩
      obtain ⟨gG, hgG⟩ : ∃ gG, gG = w6.heap.size := ⟨_, rfl⟩
      obtain ⟨gT, hgT⟩ : ∃ gT, gT = gG + 1 := ⟨_, rfl⟩
      rw [Z7.out, ← hgG, ← hgT] at W9
      rw [← hgG, ← hgT]
      clear hb hwk hBl hBn hgG hgT
      go_wp2
      go_loopw [14, 15] (fun vi vn wr => ∃ (ii n d : Nat) (qr : Pl) (mr : Mp ByteArray) (g : Nat → Bool) (t : Nat → Nat), ii ≤ n2 ∧ vi = .int .i64 ii ∧ vn = .int .i64 n ∧ n ≤ d ∧ qr.b = p.b ∧ MS.Live wr w1.heap.size qr a0 b0 mr ∧ ((∀ j, qr.own j → j < wC.heap.size ∨ w9.heap.size ≤ j) ∧ w9.heap.size ≤ wr.heap.size) ∧ MS.WO wr wC.heap.size w8.heap.size w9.heap.size b p.b (.slice ka n0 kc) (.slice (some ⟨gG, 0, none⟩) n0 n0) (.slice (some ⟨gT, 0, none⟩) n0 n0) B g t (B.drop d) ∧ MS.Tk mr B d g t ∧ Below w.heap.size w wr) (fun _ vn _ => 2000 - (intOf vn).toNat)
      case atStart => exact ⟨0, 0, 0, q, m, _, _, by omega, rfl, rfl, by omega, HQ.out, L9.out, ⟨O9.out, Nat.le_refl _⟩, W9.out, TK.out, B9.out⟩
      case round =>
        obtain ⟨ii, n, d, qr, mr, g, t, hii, rfl, rfl, hnd, hq, hL, ho, hw, htk, hB⟩ := hrel
        have HQr := Lib.hid hq
        have HLr := Lib.hid hL
        have HOr := Lib.hid ho
        have HWr := Lib.hid hw
        have HTr := Lib.hid htk
        have HBw := Lib.hid hB
        have hn5 : n ≤ 500 := by have := htk.le; have := HBN.out; omega
        have hd2000 : decide ((n : Int) < 2000) = true := decide_eq_true (by omega)
        have hn2000 : (n : Int) < 2000 := by omega
        have HND := Lib.hid hnd
        clear hq hL ho hw htk hB hnd
        go_upto_if 75 with fail
        go_cut [14] (fun vi wx => ∃ (ii : Nat) (qx : Pl) (mx : Mp ByteArray) (gx : Nat → Bool), ii ≤ n2 ∧ vi = .int .i64 ii ∧ qx.b = p.b ∧ MS.Live wx w1.heap.size qx a0 b0 mx ∧ ((∀ j, qx.own j → j < wC.heap.size ∨ w9.heap.size ≤ j) ∧ w9.heap.size ≤ wx.heap.size) ∧ MS.WO wx wC.heap.size w8.heap.size w9.heap.size b p.b (.slice ka n0 kc) (.slice (some ⟨gG, 0, none⟩) n0 n0) (.slice (some ⟨gT, 0, none⟩) n0 n0) B gx t (B.drop d) ∧ MS.Tk mx B d gx t ∧ Below w.heap.size w wx)
        case first =>
          by_cases hia : ii < n2
          · have hdi : decide ((ii : Int) < (n2 : Int)) = true := decide_eq_true (by omega)
            have hin : (ii : Int) < (n2 : Int) := by omega
            have hi1 : IntKind.i64.wrap ((ii : Int) + 1) = ((ii + 1 : Nat) : Int) := by rw [IntWalk.i64_in _ (by omega)]; omega
            obtain ⟨b2, off, rfl, x0, x1, x2⟩ := (HAR2.out.below (Nat.le_refl _) HBw.out).act hia
            obtain ⟨x, hx⟩ : ∃ x, x = xs2.getD ii default := ⟨_, rfl⟩
            have hxk : x.key.size ≤ maxLen := by
              have h1 := (HF2.out.2 ii hia).1
              rw [← hx] at h1
              exact Nat.le_trans (Nat.le_of_lt h1) (by decide : 40000 ≤ maxLen)
            rw [← hx] at x0 x1 x2
            have HXK := Lib.hid hxk
            clear hx hxk
            obtain ⟨wA, hwA⟩ : ∃ wA, wA = wr.alloc (.cells #[.int .i64 x.k, .string x.key, .string x.val] 45) := ⟨_, rfl⟩
            have BA : Hid (Below wr.heap.size wr wA) := by rw [hwA]; exact (Below.refl _ wr).alloc (Nat.le_refl _) _
            have LX := Lib.hid (HLr.out.below (Nat.le_refl _) BA.out)
            have WA := Lib.hid (HWr.out.below BA.out)
            have BX : Hid (Below w.heap.size w wA) := HBw.out.trans (BA.out.mono HBw.out.size)
            obtain ⟨X, hX⟩ : ∃ X, X = wr.heap.size := ⟨_, rfl⟩
            have y0 : wA.cell? ⟨X, 0, none⟩ = some (.int .i64 x.k) := by rw [hwA, hX]; simp
            have y1 : wA.cell? ⟨X, 1, none⟩ = some (.string x.key) := by rw [hwA, hX]; simp
            have y2 : wA.cell? ⟨X, 2, none⟩ = some (.string x.val) := by rw [hwA, hX]; simp
            have HOX : Hid (¬ qr.own X) := fun e => by have := HLr.out.at_.lt e; omega
            have HXX := Lib.hid hX
            have HWA := Lib.hid hwA
            clear hwA hX
            go_upto_region 19 with fail
            rw [← HWA.out, ← HXX.out]
            clear x0 x1 x2
            by_cases hk1 : x.k = 1
            · rw [hk1] at y0
              clear hk1
              have hac := MS.delete_live LX.out x.key HXK.out
              rw [HQr.out] at hac
              have HAC := Lib.hid hac
              clear hac
              go_wp2_with fail
              refine HAC.out.mono ?_
              rintro e w5 ⟨rfl, q5, hq5, hL5, ho5, hK5⟩
              have L5 := Lib.hid hL5
              have B5 : Hid (Below w.heap.size w w5) := BX.out.trans ((LX.out.low hK5).mono HLO.out)
              have HQ5 := Lib.hid (hq5.trans HQr.out)
              have O5 : Hid ((∀ j, q5.own j → j < wC.heap.size ∨ w9.heap.size ≤ j) ∧ w9.heap.size ≤ w5.heap.size) := ⟨fun j hj => by
                rcases ho5 j hj with h | h
                · exact HOr.out.1 j h
                · exact .inr (by have := BA.out.size; have := HOr.out.2; omega), by have := BA.out.size; have := HOr.out.2; have := hK5.size; omega⟩
              have W5 := Lib.hid (WA.out.kept hK5 (fun j h1 h2 h3 => by have := HOr.out.1 j h3; omega))
              have y15 := kept_cell hK5 y1 HOX.out
              have TD := Lib.hid (HTr.out.del HLr.out.inv x.key)
              have KG : Hid (∀ j, q5.own j → j ≠ gG) := fun j hj e => by
                have h1 : wC.heap.size ≤ gG := (own_lt W5.out.rg rfl).1
                have h2 := W5.out.lg gG rfl
                have h3 := W5.out.le
                rcases O5.out.1 j hj with h | h <;> omega
              have ZG : Hid (wC.heap.size ≤ gG ∧ gG ≠ 0 ∧ X ≠ gG ∧ w.heap.size ≤ gG) := by
                have h1 : wC.heap.size ≤ gG := (own_lt W5.out.rg rfl).1
                have h2 := W5.out.lg gG rfl
                have h3 := W5.out.le
                have h4 := ZK.out
                have h5 := HOr.out.2
                have h6 := HXX.out
                have h7 := HLO.out
                exact ⟨by omega, by omega, by omega, by omega⟩
              clear hL5 hK5 hq5 ho5 y0 y1 y2
              go_wp2
              go_loopw [91] (fun vi wr => ∃ j : Nat, j ≤ n0 ∧ vi = .int .i64 j ∧ MS.WO wr wC.heap.size w8.heap.size w9.heap.size b p.b (.slice ka n0 kc) (.slice (some ⟨gG, 0, none⟩) n0 n0) (.slice (some ⟨gT, 0, none⟩) n0 n0) B (MS.goneF B x.key g j) t (B.drop d) ∧ Kept (fun r => r = gG) w5 wr) (fun vi _ => n0 - (intOf vi).toNat)
              case atStart => exact ⟨0, by omega, rfl, W5.out.congr (fun i _ => by unfold MS.goneF; rw [if_neg (by omega)]) (fun _ _ => rfl), Kept.refl _ _⟩
              case round =>
                obtain ⟨j, hj, rfl, hwj, hkj⟩ := hrel
                obtain ⟨w6', hw6'⟩ : ∃ w6', w6' = wr := ⟨_, rfl⟩
                rw [← hw6'] at hwj hkj ⊢
                clear hw6'
                have HWj := Lib.hid hwj
                have HKj := Lib.hid hkj
                by_cases hlj : j < n0
                · have hdj : decide ((j : Int) < (n0 : Int)) = true := decide_eq_true (by omega)
                  have hjn : (j : Int) < (n0 : Int) := by omega
                  obtain ⟨gB, kc', hvB, _, _, _, hBcell⟩ := own_read hwj.rb (by have := HBN.out; omega)
                  injection hvB with hka _ hkc'
                  subst hka
                  obtain ⟨s, hs⟩ : ∃ s, B[j]? = some s := ⟨_, List.getElem?_eq_getElem (by have := HBN.out; omega)⟩
                  have z0 := hBcell j (.string s) (by simp [textsV, hs])
                  have hrg := hwj.rg
                  rw [HBN.out] at hrg
                  have z1 := hrg.cellAt j (by omega)
                  rw [MS.rowB_at _ hlj, show MS.goneF B x.key g j j = g j by unfold MS.goneF; rw [if_neg (by omega)]] at z1
                  have z2 := hrg.frozenAt j
                  have z3 := kept_cell hkj y15 ZG.out.2.2.1
                  have HS := Lib.hid hs
                  clear hwj hkj hkc' hBcell hs hrg
                  cases hgj : g j with
                  | true =>
                    rw [hgj] at z1
                    have HGJ := Lib.hid hgj
                    clear hgj
                    go_upto_region 25 with fail
                    go_region
                    all_goals (
                      have W7 : Hid (MS.WO (w6'.setCell ⟨gG, j, none⟩ (.bool true)).drew wC.heap.size w8.heap.size w9.heap.size b p.b (.slice (some ⟨gB, 0, none⟩) n0 kc) (.slice (some ⟨gG, 0, none⟩) n0 n0) (.slice (some ⟨gT, 0, none⟩) n0 n0) B (MS.goneF B x.key g (j + 1)) t (B.drop d)) := (HWj.out.setG true HBN.out.symm (fun i _ => MS.goneF_succ B x.key g HS.out (by rw [HGJ.out]; rfl) i)).drew
                      have K7 : Hid (Kept (fun r => r = gG) w5 (w6'.setCell ⟨gG, j, none⟩ (.bool true)).drew) := (HKj.out.setCell (p := ⟨gG, j, none⟩) (.inl rfl) _).drew
                      go_wp2_with fail
                      go_roundw
                      case rel => exact ⟨j + 1, by omega, by go_num, W7.out, K7.out⟩
                      case measure => simp [intOf]; omega)
                  | false =>
                    rw [hgj] at z1
                    by_cases hkk : s = x.key
                    · have hb2 : (s.toList == x.key.toList) = true := by rw [beq_toList]; exact decide_eq_true hkk
                      have HKK := Lib.hid hkk
                      clear hkk
                      have HGJ := Lib.hid hgj
                      clear hgj
                      go_upto_region 25 with fail
                      go_region
                      all_goals (
                        have W7 : Hid (MS.WO (w6'.setCell ⟨gG, j, none⟩ (.bool true)).drew wC.heap.size w8.heap.size w9.heap.size b p.b (.slice (some ⟨gB, 0, none⟩) n0 kc) (.slice (some ⟨gG, 0, none⟩) n0 n0) (.slice (some ⟨gT, 0, none⟩) n0 n0) B (MS.goneF B x.key g (j + 1)) t (B.drop d)) := (HWj.out.setG true HBN.out.symm (fun i _ => MS.goneF_succ B x.key g HS.out (by rw [HGJ.out]; rw [decide_eq_true HKK.out]; rfl) i)).drew
                        have K7 : Hid (Kept (fun r => r = gG) w5 (w6'.setCell ⟨gG, j, none⟩ (.bool true)).drew) := (HKj.out.setCell (p := ⟨gG, j, none⟩) (.inl rfl) _).drew
                        go_wp2_with fail
                        go_roundw
                        case rel => exact ⟨j + 1, by omega, by go_num, W7.out, K7.out⟩
                        case measure => simp [intOf]; omega)
                    · have hb2 : (s.toList == x.key.toList) = false := by rw [beq_toList]; exact decide_eq_false hkk
                      have HKK := Lib.hid hkk
                      clear hkk
                      have HGJ := Lib.hid hgj
                      clear hgj
                      go_upto_region 25 with fail
                      go_region
                      all_goals (
                        have W7 : Hid (MS.WO (w6'.setCell ⟨gG, j, none⟩ (.bool false)).drew wC.heap.size w8.heap.size w9.heap.size b p.b (.slice (some ⟨gB, 0, none⟩) n0 kc) (.slice (some ⟨gG, 0, none⟩) n0 n0) (.slice (some ⟨gT, 0, none⟩) n0 n0) B (MS.goneF B x.key g (j + 1)) t (B.drop d)) := (HWj.out.setG false HBN.out.symm (fun i _ => MS.goneF_succ B x.key g HS.out (by rw [HGJ.out]; rw [decide_eq_false HKK.out]; rfl) i)).drew
                        have K7 : Hid (Kept (fun r => r = gG) w5 (w6'.setCell ⟨gG, j, none⟩ (.bool false)).drew) := (HKj.out.setCell (p := ⟨gG, j, none⟩) (.inl rfl) _).drew
                        go_wp2_with fail
                        go_roundw
                        case rel => exact ⟨j + 1, by omega, by go_num, W7.out, K7.out⟩
                        case measure => simp [intOf]; omega)
                · obtain rfl : j = n0 := by omega
                  have hdj : decide ((j : Int) < (j : Int)) = false := decide_eq_false (by omega)
                  clear hwj hkj
                  go_wp2
                  go_meet
                  refine ⟨ii + 1, q5, _, MS.goneF B x.key g j, by omega, rfl, HQ5.out, L5.out.kept HKj.out (fun i h e => KG.out i h e) (fun e => ZG.out.2.1 e.symm), ⟨O5.out.1, Nat.le_trans O5.out.2 HKj.out.size⟩, HWj.out, by rw [← HBN.out]; exact TD.out, B5.out.trans (HKj.out.below B5.out.size (fun r _ e => by rw [e]; exact ZG.out.2.2.2))⟩
            · have hk1' : (x.k == 1) = false := by simpa using hk1
              clear hk1
              have hac := MS.put_live LX.out x.key x.val HXK.out
              rw [HQr.out] at hac
              have HAC := Lib.hid hac
              clear hac
              go_wp2_with fail
              refine HAC.out.mono ?_
              rintro e w5 ⟨rfl, q5, hq5, hL5, ho5, hK5⟩
              have L5 := Lib.hid hL5
              have B5 : Hid (Below w.heap.size w w5) := BX.out.trans ((LX.out.low hK5).mono HLO.out)
              have HQ5 := Lib.hid (hq5.trans HQr.out)
              have O5 : Hid ((∀ j, q5.own j → j < wC.heap.size ∨ w9.heap.size ≤ j) ∧ w9.heap.size ≤ w5.heap.size) := ⟨fun j hj => by
                rcases ho5 j hj with h | h
                · exact HOr.out.1 j h
                · exact .inr (by have := BA.out.size; have := HOr.out.2; omega), by have := BA.out.size; have := HOr.out.2; have := hK5.size; omega⟩
              have W5 := Lib.hid (WA.out.kept hK5 (fun j h1 h2 h3 => by have := HOr.out.1 j h3; omega))
              have TP := Lib.hid (HTr.out.put HLr.out.inv x.key x.val)
              clear hL5 hK5 hq5 ho5 y0 y1 y2
              go_wp2
              go_meet
              exact ⟨ii + 1, q5, _, g, by omega, rfl, HQ5.out, L5.out, O5.out, W5.out, TP.out, B5.out⟩
          · have hdi : decide ((ii : Int) < (n2 : Int)) = false := decide_eq_false (by omega)
            go_wp2
            go_meet
            exact ⟨ii, qr, mr, g, hii, rfl, HQr.out, HLr.out, HOr.out, HWr.out, HTr.out, HBw.out⟩
        case rest =>
          obtain ⟨i2, qx, mx, gx, hi2, rfl, hq, hL, ho, hw, htk, hB⟩ := hcut
          have HQx := Lib.hid hq
          have HLx := Lib.hid hL
          have HOx := Lib.hid ho
          have HWx := Lib.hid hw
          have HTx := Lib.hid htk
          have HBx := Lib.hid hB
          have hnb : ¬ qx.own b := fun e => by
            have h1 := hw.hb
            have h2 := hw.le
            rcases ho.1 b e with h | h <;> omega
          have hb0 : 0 < b := by have h1 := hw.hb; have h2 := hw.le; have := ZK.out; omega
          have hwk := hw.wk
          rw [← hq] at hwk
          have hne := MS.next_r qx a0 b0 mx b (B.drop d) wc w1.heap.size hL _ hwk (fun u hu => HBS.out u (List.mem_of_mem_drop hu)) hnb hb0
          have HNB := Lib.hid hnb
          clear hq hL ho hw htk hB hwk hnb hb0
          rcases HTx.out.next HLx.out.inv with ⟨x, u, hxl, hdx, hbx, htx, hgx, hnx, hTn⟩ | ⟨hnx, hTn⟩
          · rw [hnx] at hne
            have hgv := MS.getV_true hgx
            have hsz := HBS.out u (List.mem_of_getElem? hbx)
            have HNE := Lib.hid hne
            have HTN := Lib.hid hTn
            have HTX := Lib.hid htx
            have HBX := Lib.hid hbx
            have HGV := Lib.hid hgv
            have HSZ := Lib.hid hsz
            obtain ⟨v, hv⟩ : ∃ v, v = (MS.getV (hashN a0 b0) mx u).1 := ⟨_, rfl⟩
            rw [← hv] at HNE HGV
            clear hne hTn htx hbx hgv hsz hgx hnx hv
            go_wp2_with fail
            refine HNE.out.mono ?_
            rintro e w5 ⟨rfl, hw5, hk5⟩
            have W5 : Hid (MS.WO w5 wC.heap.size w8.heap.size w9.heap.size b p.b (.slice ka n0 kc) (.slice (some ⟨gG, 0, none⟩) n0 n0) (.slice (some ⟨gT, 0, none⟩) n0 n0) B gx t (B.drop (x + 1))) := HWx.out.next hk5 (by rw [← HQx.out]; exact hw5)
            have L5 : Hid (MS.Live w5 w1.heap.size qx a0 b0 mx) := HLx.out.kept hk5 (fun i h e => HNB.out (e ▸ h)) (fun e => by have h1 := HWx.out.hb; have h2 := HWx.out.le; have h3 := ZK.out; have : 0 = b := e; omega)
            have B5 : Hid (Below w.heap.size w w5) := HBx.out.trans (hk5.below HBx.out.size (fun r _ e => by have h1 := HWx.out.hb; have h2 := HWx.out.le; have h3 := ZK.out; have h4 := HLO.out; have : r = b := e; omega))
            have Z5 : Hid (w9.heap.size ≤ w5.heap.size) := Nat.le_trans HOx.out.2 hk5.size
            have hge := MS.get_any qx a0 b0 mx u HSZ.out w5 L5.out.at_ L5.out.inv
            rw [HGV.out, HQx.out] at hge
            have HGE := Lib.hid hge
            clear hw5 hk5 hge
            go_wp2_with fail
            refine HGE.out.mono ?_
            rintro e w6' ⟨rfl, hb6⟩
            have W6 := Lib.hid (W5.out.below hb6)
            have L6 := Lib.hid (L5.out.below (Nat.le_refl _) hb6)
            have B6 : Hid (Below w.heap.size w w6') := B5.out.trans (hb6.mono B5.out.size)
            have Z6 : Hid (w9.heap.size ≤ w6'.heap.size) := Nat.le_trans Z5.out hb6.size
            have ZT : Hid (wC.heap.size ≤ gT ∧ gT < w8.heap.size ∧ w8.heap.size ≤ w9.heap.size ∧ gT ≠ 0 ∧ w.heap.size ≤ gT) := by
              have h1 : wC.heap.size ≤ gT := (own_lt W6.out.rt rfl).1
              have h2 := W6.out.lt gT rfl
              have h3 := W6.out.le
              have h4 := ZK.out
              have h7 := HLO.out
              exact ⟨by omega, by omega, by omega, by omega, by omega⟩
            clear hb6
            go_wp2_with fail
            go_loopw [23, 140] (fun vin vi wr => ∃ j : Nat, j ≤ n0 ∧ vi = .int .i64 j ∧ vin = .bool (decide (x < j)) ∧ MS.WO wr wC.heap.size w8.heap.size w9.heap.size b p.b (.slice ka n0 kc) (.slice (some ⟨gG, 0, none⟩) n0 n0) (.slice (some ⟨gT, 0, none⟩) n0 n0) B gx (MS.toldF t x j) (B.drop (x + 1)) ∧ Kept (fun r => r = gT) w6' wr) (fun _ vi _ => n0 - (intOf vi).toNat)
            case atStart => exact ⟨0, by omega, rfl, by rw [decide_eq_false (by omega)], W6.out.congr (fun _ _ => rfl) (fun i _ => by unfold MS.toldF; rw [if_neg (by omega)]), Kept.refl _ _⟩
            case round =>
              obtain ⟨j, hj, rfl, rfl, hwj, hkj⟩ := hrel
              obtain ⟨w7', hw7'⟩ : ∃ w7', w7' = wr := ⟨_, rfl⟩
              rw [← hw7'] at hwj hkj ⊢
              clear hw7'
              have HWj := Lib.hid hwj
              have HKj := Lib.hid hkj
              by_cases hlj : j < n0
              · have hdj : decide ((j : Int) < (n0 : Int)) = true := decide_eq_true (by omega)
                have hjn : (j : Int) < (n0 : Int) := by omega
                obtain ⟨gB, kc', hvB, _, _, _, hBcell⟩ := own_read hwj.rb (by have := HBN.out; omega)
                injection hvB with hka _ hkc'
                subst hka
                obtain ⟨s, hs⟩ : ∃ s, B[j]? = some s := ⟨_, List.getElem?_eq_getElem (by have := HBN.out; omega)⟩
                have z0 := hBcell j (.string s) (by simp [textsV, hs])
                have hrt := hwj.rt
                rw [HBN.out] at hrt
                have z1 := hrt.cellAt j (by omega)
                rw [MS.rowI_at _ hlj] at z1
                have z2 := hrt.frozenAt j
                have HS := Lib.hid hs
                clear hwj hkj hkc' hBcell hs hrt
                by_cases hjx : j = x
                · have hsu : s = u := by have h1 := HS.out; have h2 := HBX.out; rw [hjx, h2] at h1; injection h1 with h1; exact h1.symm
                  rw [show MS.toldF t x j j = 0 by unfold MS.toldF; rw [if_neg (by omega), hjx]; exact HTX.out] at z1
                  have HJX := Lib.hid hjx
                  subst hsu
                  have hxj : decide (x < j) = false := decide_eq_false (by omega)
                  rw [hxj]
                  clear hjx hxj
                  have W8 : Hid (MS.WO (w7'.setCell ⟨gT, j, none⟩ (.int .i64 1)) wC.heap.size w8.heap.size w9.heap.size b p.b (.slice (some ⟨gB, 0, none⟩) n0 kc) (.slice (some ⟨gG, 0, none⟩) n0 n0) (.slice (some ⟨gT, 0, none⟩) n0 n0) B gx (MS.toldF t x (j + 1)) (B.drop (x + 1))) := HWj.out.setT 1 HBN.out.symm (fun i _ => by rw [MS.toldF_succ, if_pos HJX.out, HJX.out, HTX.out])
                  have K8 : Hid (Kept (fun r => r = gT) w6' (w7'.setCell ⟨gT, j, none⟩ (.int .i64 1))) := HKj.out.setCell (p := ⟨gT, j, none⟩) (.inl rfl) _
                  go_wp2_with fail
                  go_roundw
                  case rel => exact ⟨j + 1, by omega, by go_num, by rw [decide_eq_true (by have := HJX.out; omega)], W8.out, K8.out⟩
                  case measure => simp [intOf]; omega
                · have hsu : s ≠ u := fun e => hjx (by
                    have h1 := HS.out; have h2 := HBX.out
                    rw [e] at h1
                    obtain ⟨h3, h5⟩ := List.getElem?_eq_some_iff.1 h1
                    obtain ⟨h4, h6⟩ := List.getElem?_eq_some_iff.1 h2
                    rcases Nat.lt_trichotomy j x with h | h | h
                    · exact absurd (h5.trans h6.symm) (List.pairwise_iff_getElem.1 HBD.out j x h3 h4 h)
                    · exact h
                    · exact absurd (h6.trans h5.symm) (List.pairwise_iff_getElem.1 HBD.out x j h4 h3 h))
                  have hb2 : (s.toList == u.toList) = false := by rw [beq_toList]; exact decide_eq_false hsu
                  have HJX := Lib.hid hjx
                  have W8 : Hid (MS.WO w7' wC.heap.size w8.heap.size w9.heap.size b p.b (.slice (some ⟨gB, 0, none⟩) n0 kc) (.slice (some ⟨gG, 0, none⟩) n0 n0) (.slice (some ⟨gT, 0, none⟩) n0 n0) B gx (MS.toldF t x (j + 1)) (B.drop (x + 1))) := HWj.out.congr (fun _ _ => rfl) (fun i _ => by
                    rw [MS.toldF_succ]
                    by_cases hij : i = j
                    · rw [if_pos hij, if_neg HJX.out, hij]; unfold MS.toldF; rw [if_neg (by omega)]
                    · rw [if_neg hij])
                  have HXJ : Hid (decide (x < j) = decide (x < j + 1)) := by show _ = _; rw [decide_eq_decide]; have := HJX.out; omega
                  obtain ⟨bb, hbb⟩ : ∃ bb, bb = decide (x < j) := ⟨_, rfl⟩
                  rw [← hbb] at HXJ ⊢
                  clear hjx hsu hbb
                  go_wp2_with fail
                  go_roundw
                  case rel => exact ⟨j + 1, by omega, by go_num, by rw [HXJ.out], W8.out, HKj.out⟩
                  case measure => simp [intOf]; omega
              · obtain rfl : j = n0 := by omega
                have hdj : decide ((j : Int) < (j : Int)) = false := decide_eq_false (by omega)
                have hxj : decide (x < j) = true := decide_eq_true (by have := HBN.out; omega)
                rw [hxj]
                have L8 : Hid (MS.Live w7' w1.heap.size qx a0 b0 mx) := L6.out.kept hkj (fun i h e => by have := HOx.out.1 i h; have := ZT.out; omega) (fun e => ZT.out.2.2.2.1 e.symm)
                have B8 : Hid (Below w.heap.size w w7') := B6.out.trans (hkj.below B6.out.size (fun r _ e => by rw [e]; exact ZT.out.2.2.2.2))
                have Z8' : Hid (w9.heap.size ≤ w7'.heap.size) := Nat.le_trans Z6.out hkj.size
                have HJN := Lib.hid HBN.out
                clear hwj hkj hxj
                go_wp2_with fail
                go_roundw
                case rel => exact ⟨i2, n + 1, x + 1, qx, mx, gx, MS.toldF t x j, hi2, rfl, by go_num, by have := HND.out; omega, HQx.out, L8.out, ⟨HOx.out.1, Z8'.out⟩, HWj.out, by have := HTN.out; rw [HBN.out] at this; exact this, B8.out⟩
                case measure => simp [intOf]; omega
          · rw [hnx] at hne
            have HNE := Lib.hid hne
            have HTN := Lib.hid hTn
            clear hne hTn hnx
            go_wp2_with fail
            refine HNE.out.mono ?_
            rintro e w5 ⟨rfl, hw5, hk5⟩
            have W5 : Hid (MS.WO w5 wC.heap.size w8.heap.size w9.heap.size b p.b (.slice ka n0 kc) (.slice (some ⟨gG, 0, none⟩) n0 n0) (.slice (some ⟨gT, 0, none⟩) n0 n0) B gx t []) := HWx.out.next hk5 (by rw [← HQx.out]; exact hw5)
            have B5 : Hid (Below w.heap.size w w5) := HBx.out.trans (hk5.below HBx.out.size (fun r _ e => by have h1 := HWx.out.hb; have h2 := HWx.out.le; have h3 := ZK.out; have h4 := HLO.out; have : r = b := e; omega))
            clear hw5 hk5
            go_wp2_with fail
            go_loopw [160] (fun vi wr => ∃ j : Nat, j ≤ n0 ∧ vi = .int .i64 j ∧ wr = w5) (fun vi _ => n0 - (intOf vi).toNat)
            case atStart => exact ⟨0, by omega, rfl, rfl⟩
            case round =>
              obtain ⟨j, hj, rfl, hww⟩ := hrel
              obtain ⟨w6', hw6'⟩ : ∃ w6', w6' = wr := ⟨_, rfl⟩
              rw [← hw6'] at hww ⊢
              have HWW := Lib.hid hww
              have W6 : Hid (MS.WO w6' wC.heap.size w8.heap.size w9.heap.size b p.b (.slice ka n0 kc) (.slice (some ⟨gG, 0, none⟩) n0 n0) (.slice (some ⟨gT, 0, none⟩) n0 n0) B gx t []) := by rw [hww]; exact W5.out
              have B6 : Hid (Below w.heap.size w w6') := by rw [hww]; exact B5.out
              clear hww hw6'
              by_cases hlj : j < n0
              · have hdj : decide ((j : Int) < (n0 : Int)) = true := decide_eq_true (by omega)
                have hjn : (j : Int) < (n0 : Int) := by omega
                have hrt := W6.out.rt
                rw [HBN.out] at hrt
                have z1 := hrt.cellAt j (by omega)
                rw [MS.rowI_at _ hlj] at z1
                have hrg := W6.out.rg
                rw [HBN.out] at hrg
                have z2 := hrg.cellAt j (by omega)
                rw [MS.rowB_at _ hlj] at z2
                clear hrt hrg
                rcases HTN.out.pre j (by have := HBN.out; omega) with h1 | ⟨h1, h2⟩
                · rw [h1] at z1
                  clear h1
                  go_wp2_with fail
                  go_roundw
                  case rel => exact ⟨j + 1, by omega, by go_num, HWW.out⟩
                  case measure => simp [intOf]; omega
                · rw [h1] at z1
                  rw [h2] at z2
                  clear h1 h2
                  go_wp2_with fail
                  go_roundw
                  case rel => exact ⟨j + 1, by omega, by go_num, HWW.out⟩
                  case measure => simp [intOf]; omega
              · obtain rfl : j = n0 := by omega
                have hdj : decide ((j : Int) < (j : Int)) = false := decide_eq_false (by omega)
                go_wp2_with fail
                refine (HLV.out _ B6.out).mono ?_
                rintro e w7' ⟨rfl, hb⟩
                go_wp2
                go_ret
                exact ⟨rfl, hb⟩

theorem lifted (os : Os) (started : os.Started) (H : Type) (enc : TypeId × Value → H) :
    ReturnsInHanded {} Tryd.checked os 5 .any (fun w args => (Rows.walkOnceSpec.pre enc Tryd.prog Tryd.f5 [] false w args ∧ laidMetH Tryd.prog [("corbel/group.shifts", Rows.laid_corbel_group_shifts)] w) ∧ sizedMet enc Tryd.prog Tryd.f5 (OpenSpec.ofChange Rows.walkOnceSpec) false w args)
      (Rows.walkOnceSpec.post enc Tryd.prog Tryd.f5 false true false false) := by
  refine returnsInHanded_of_change_and (C := Tryd.checked) (X := fun w _ => laidMetH Tryd.prog [("corbel/group.shifts", Rows.laid_corbel_group_shifts)] w) (fun _ _ _ hh h => h.of_heap hh) own started (by kernel_rfl) Tryd.func5
    (ChangeSpec.witness_at (enc := enc) (C := Tryd.checked) (os := os) (X := fun w _ => laidMetH Tryd.prog [("corbel/group.shifts", Rows.laid_corbel_group_shifts)] w) false (laidWorld os) #[.agg #[.int .u64 0, .int .u64 0], .slice none 0 0, .slice none 0 0] 8 rfl (by kernel_rfl) (by kernel_rfl) (by kernel_rfl) (by kernel_rfl) (by kernel_rfl) (laidWorld_met os _)) ?_
  intro W base args ds gs before hval0 hW hcnd hsz0 hL _
  have hsz : (DataW.weightsEach Tryd.prog (Tryd.f5.params.toList ++ Rows.walkOnceSpec.plain.varTypes Tryd.prog) (ds ++ gs)).all (· ≤ reachBytes) = true := hsz0
  clear hsz0
  have hval : ∀ (j : Nat) t v, Tryd.f5.params[j]? = some t → args[j]? = some v → Value.okWide Tryd.prog W .any base t v := hval0
  have hW' := hW
  obtain ⟨p, q, hA0, hV, rfl, hfz, hnd⟩ := hW
  have hA : DataW.TrodAll enc Tryd.prog W 0 (fun _ => true) true Tryd.f5.params.toList args.toList ds p := hA0
  rw [Tryd.params5] at hA hval hsz
  obtain ⟨v0, vs0, d0, ds0, p0, q0, hargs, rfl, rfl, h0, r0⟩ := trodAll_cons hA
  obtain ⟨v1, vs1, d1, ds1, p1, q1, rfl, rfl, rfl, h1, r1⟩ := trodAll_cons r0
  obtain ⟨v2, vs2, d2, ds2, p2, q2, rfl, rfl, rfl, h2, r2⟩ := trodAll_cons r1
  obtain ⟨rfl, rfl, rfl⟩ := trodAll_nil r2
  obtain rfl : args = #[v0, v1, v2] := by cases args; simp_all
  obtain ⟨rfl, rfl⟩ := trodVars_none hV
  have hfit0 := fun q hq => of_decide_eq_true (List.all_eq_true.1 hsz q hq)
  clear hsz
  obtain ⟨F0, hfit1⟩ := fit_cons hfit0
  obtain ⟨a0, b0, rfl, rfl, rfl⟩ := open_key (hval 0 24 v0 rfl rfl) h0
  obtain ⟨F1, hfit2⟩ := fit_cons hfit1
  have k1 := h1
  have lt1 : ∀ x ∈ p1, x.block < W.heap.size := by obtain ⟨m, hm⟩ := k1; exact DataW.trod_lt m _ _ _ hm
  obtain ⟨s1, n1, c1, xs1, rfl, ar1⟩ := open_acts6 (hval 1 41 v1 rfl rfl) h1 F1
  obtain ⟨F2, hfit3⟩ := fit_cons hfit2
  have k2 := h2
  have lt2 : ∀ x ∈ p2, x.block < W.heap.size := by obtain ⟨m, hm⟩ := k2; exact DataW.trod_lt m _ _ _ hm
  obtain ⟨s2, n2, c2, xs2, rfl, ar2⟩ := open_acts6 (hval 2 41 v2 rfl rfl) h2 F2
  clear hA0 hval0
  try simp only [List.append_nil] at hW'
  refine (walk W (sh_of_laid hL) a0 b0 s1 n1 c1 xs1 ar1 s2 n2 c2 xs2 ar2).mono fun e W' ⟨he, hg⟩ => ?_
  subst he
  exact ⟨_, rfl, _, _, _, [], _, [], hW', (trodAll_cons_mk (shut_bool Tryd.underlying4 _) trodAll_mk0), (trodAll_cons_mk (shut_key a0 b0) (trodAll_cons_mk (Below.trod laidOut (by kernel_rfl) (of_decide_eq_true (by kernel_rfl)) k1 hg lt1) (trodAll_cons_mk (Below.trod laidOut (by kernel_rfl) (of_decide_eq_true (by kernel_rfl)) k2 hg lt2) trodAll_mk0))), rfl, hg.frame _, fun h => by cases h⟩

theorem over : Rows.walkOnceRow.holds Tryd.pinned (OpenSpec.ofChange Rows.walkOnceSpec) :=
  OpenClaim.holds_of_wide 5 Tryd.f5 rfl rfl rfl rfl rfl rfl rfl ⟨rfl, rfl, rfl, rfl, rfl⟩ rfl rfl rfl rfl rfl (by kernel_rfl) Tryd.func5 (by kernel_rfl)
    (of_decide_eq_true (by kernel_rfl)) (by unfold Func.isWrapper; first | (rw [if_pos (by decide +kernel)]; kernel_rfl) | (rw [if_neg (by decide +kernel)]; exact ⟨rfl, rfl⟩))
    (fun os started H enc _ => lifted os started H enc)

/-- ████ THE STATEMENT ████ -/
theorem proved : Rows.WalkOnceCardSaid :=
  Claim7.holds_tied_plain_at .later [] [.data] true (true, "7e67664e74d41973af7dd467c0ac8d15e139965457cce989b794987f38f310ec") false
    over (fun _ h => by cases h) (by kernel_rfl) (fun _ h => by cases h) walkOnce_row_tie rfl ⟨rfl, rfl⟩ (by kernel_rfl) rfl
    (fun f fn hf hfn => by
      obtain rfl : f = 5 := Option.some.inj ((show Tryd.prog.funcNamed "corbel/corbellaw06.WalkOnce" = some 5 by kernel_rfl).symm.trans hf) |>.symm
      obtain rfl : fn = Tryd.f5 := (Option.some.inj (Tryd.func5.symm.trans hfn)).symm
      refine ⟨by kernel_rfl, fun j t ht => ?_⟩
      have hm := Array.mem_of_getElem? ht
      rw [Tryd.params5] at hm
      simp only [List.mem_toArray, List.mem_cons, List.not_mem_nil, or_false] at hm
      rcases hm with rfl | rfl | rfl
      · exact (show Tryd.prog.wantsStandIn 24 = false by kernel_rfl)
      · exact (show Tryd.prog.wantsStandIn 41 = false by kernel_rfl)
      · exact (show Tryd.prog.wantsStandIn 41 = false by kernel_rfl))
    (by kernel_rfl)
#print axioms proved
end Go.Proofs.YtcooapflofiolaaDoor.walkOnce
