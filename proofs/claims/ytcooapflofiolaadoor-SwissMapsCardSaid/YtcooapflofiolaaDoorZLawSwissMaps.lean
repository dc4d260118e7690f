/- Texts of this seat, set one behind the other. -/
import Derived.Test.YtcooapflofiolaaDoorZ2
import Derived.Test.YtcooapflofiolaaDoorZ1
import Derived.Test.YtcooapflofiolaaDoorZ3
import Derived.Laws.OwnMore
import Derived.Test.YtcooapflofiolaaDoorRows
import Derived.WalkKit
import Derived.ProofKit
import Derived.OpenShut
import Derived.Deep.RegionHeld3
import Derived.Deep.DeepCutAuto
import Derived.ShutString
import Derived.ChangeOld
import Derived.Below
import Derived.SizedLaws
import Derived.Test.YtcooapflofiolaaDoorTie
import Derived.Test.YtcooapflofiolaaDoorCards
import Derived.SevenTiedAt
/- Two maps that New made, one behind the other, in any order: what SwissMaps begins with. -/
namespace Go.Proofs.YtcooapflofiolaaDoor.MS
open Go Go.RowKit Go.Shelf
set_option linter.unusedVariables false
section
variable {w w' : World} {lo : Nat} {p : Pl} {k0 k1 : BitVec 64} {m : Mp VT}
theorem Live.lower {l : Nat} (h : Live w lo p k0 k1 m) (hl : l ≤ lo) (h0 : 0 < l) : Live w l p k0 k1 m :=
  ⟨h.at_, h.inv, h.keys, h.sh, fun j hj => Nat.le_trans hl (h.own j hj), h0, Nat.le_trans hl h.le⟩
end
/-- A map that New made in a world behind 'w1'. -/
def Newd (w1 W w' : World) (p : Pl) (k0 k1 : BitVec 64) (g : Nat) : Prop := Live w' w1.heap.size p k0 k1 (empty g) ∧ (∀ j, p.own j → W.heap.size ≤ j ∧ j < w'.heap.size) ∧ Below W.heap.size W w'
theorem new_from (k0 k1 : BitVec 64) (hint : Int) (g : Nat) (hg : needF hint = (g : Int)) (h0 : g ≠ 0) (w1 : World) (hS : Sh w1) (W : World) (hW : Below w1.heap.size w1 W) :
    Calls Tryd.prog 13 #[.agg #[.int .u64 (Sip.U k0), .int .u64 (Sip.U k1)], .int .i64 hint] W fun e w' => ∃ p : Pl, e = .returned (.pointer (some ⟨p.b, 0, none⟩)) ∧ Newd w1 W w' p k0 k1 g :=
  (new_live k0 k1 hint W (hS.below hW)).mono fun e w' ⟨hb, h⟩ => by
    rcases h with ⟨h1, _⟩ | ⟨p, g', h1, h2, h3⟩
    · rw [hg] at h1; omega
    · obtain rfl : g' = g := by rw [hg] at h1; omega
      exact ⟨p, h2, h3.lower hW.size (sh_pos hS), fun j hj => ⟨h3.own j hj, h3.at_.lt hj⟩, hb⟩
/-- Two maps, apart from one another. -/
def Both (lo : Nat) (w : World) (px : Pl) (k0 k1 : BitVec 64) (mx : Mp VT) (py : Pl) (l0 l1 : BitVec 64) (my : Mp VT) : Prop := Live w lo px k0 k1 mx ∧ Live w lo py l0 l1 my ∧ ∀ j, px.own j → ¬ py.own j
theorem both_xy {w1 W wa W' wb : World} {px py : Pl} {k0 k1 l0 l1 : BitVec 64} {g h : Nat} (nx : Newd w1 W wa px k0 k1 g) (ny : Newd w1 W' wb py l0 l1 h) (hb : Below wa.heap.size wa W') : Both w1.heap.size wb px k0 k1 (empty g) py l0 l1 (empty h) :=
  ⟨nx.1.below (Nat.le_refl _) (hb.trans (ny.2.2.mono hb.size)), ny.1, fun j h1 h2 => by have := (nx.2.1 j h1).2; have := (ny.2.1 j h2).1; have := hb.size; omega⟩
theorem both_yx {w1 W wa W' wb : World} {px py : Pl} {k0 k1 l0 l1 : BitVec 64} {g h : Nat} (ny : Newd w1 W wb py l0 l1 h) (nx : Newd w1 W' wa px k0 k1 g) (hb : Below wb.heap.size wb W') : Both w1.heap.size wa px k0 k1 (empty g) py l0 l1 (empty h) :=
  ⟨nx.1, ny.1.below (Nat.le_refl _) (hb.trans (nx.2.2.mono hb.size)), fun j h1 h2 => by have := (ny.2.1 j h2).2; have := (nx.2.1 j h1).1; have := hb.size; omega⟩
/-- What an act on the one leaves of both. -/
theorem Both.actX {lo : Nat} {w w' : World} {px py : Pl} {k0 k1 l0 l1 : BitVec 64} {mx my m' : Mp VT} (h : Both lo w px k0 k1 mx py l0 l1 my) (ha : Acted w lo px k0 k1 m' w') :
    ∃ q : Pl, q.b = px.b ∧ Both lo w' q k0 k1 m' py l0 l1 my ∧ (∀ j, (q.own j ∨ py.own j) → (px.own j ∨ py.own j) ∨ w.heap.size ≤ j) ∧ Kept px.own w w' := by
  obtain ⟨q, h1, h2, h3, h4⟩ := ha
  refine ⟨q, h1, ⟨h2, h.2.1.kept h4 (fun j hj e => h.2.2 j e hj) h.1.zero, fun j hj hy => ?_⟩, fun j hj => ?_, h4⟩
  · rcases h3 j hj with h5 | h5
    · exact h.2.2 j h5 hy
    · have := h.2.1.at_.lt hy; omega
  · rcases hj with hj | hj
    · rcases h3 j hj with h5 | h5
      · exact .inl (.inl h5)
      · exact .inr h5
    · exact .inl (.inr hj)
theorem Both.actY {lo : Nat} {w w' : World} {px py : Pl} {k0 k1 l0 l1 : BitVec 64} {mx my m' : Mp VT} (h : Both lo w px k0 k1 mx py l0 l1 my) (ha : Acted w lo py l0 l1 m' w') :
    ∃ q : Pl, q.b = py.b ∧ Both lo w' px k0 k1 mx q l0 l1 m' ∧ (∀ j, (px.own j ∨ q.own j) → (px.own j ∨ py.own j) ∨ w.heap.size ≤ j) ∧ Kept py.own w w' := by
  obtain ⟨q, h1, h2, h3, h4⟩ := ha
  refine ⟨q, h1, ⟨h.1.kept h4 (fun j hj e => h.2.2 j hj e) h.2.1.zero, h2, fun j hj hy => ?_⟩, fun j hj => ?_, h4⟩
  · rcases h3 j hy with h5 | h5
    · exact h.2.2 j hj h5
    · have := h.1.at_.lt hj; omega
  · rcases hj with hj | hj
    · exact .inl (.inl hj)
    · rcases h3 j hj with h5 | h5
      · exact .inl (.inr h5)
      · exact .inr h5
theorem Both.below {lo k : Nat} {w w' : World} {px py : Pl} {k0 k1 l0 l1 : BitVec 64} {mx my : Mp VT} (h : Both lo w px k0 k1 mx py l0 l1 my) (hk : w.heap.size ≤ k) (hb : Below k w w') : Both lo w' px k0 k1 mx py l0 l1 my :=
  ⟨h.1.below hk hb, h.2.1.below hk hb, h.2.2⟩
end Go.Proofs.YtcooapflofiolaaDoor.MS

/- The walk through a map of texts: New, Next, Left. -/
namespace Go.Proofs.YtcooapflofiolaaDoor
set_option linter.unusedVariables false
theorem TR.drop {w : World} {n : Nat} {k : ByteArray} {l : List ByteArray} {b off : Nat} (h : TR w (some ⟨b, off, none⟩) (n + 1) (k :: l)) : TR w (some ⟨b, off + 1, none⟩) n l := by
  refine ⟨by have := h.1; simpa using this, ?_⟩
  obtain ⟨b', off', e, hc⟩ := h.2.resolve_left (by omega)
  injection e with e
  injection e with e1 e2
  subst e1 e2
  refine .inr ⟨b, off + 1, rfl, fun j hj => ?_⟩
  have := hc (j + 1) (by omega)
  rw [Nat.add_assoc, Nat.add_comm 1 j]
  simpa using this
theorem TR.kept {w w' : World} {S : Nat → Prop} {a : Option Addr} {n : Nat} {l : List ByteArray} (h : TR w a n l) (hk : Kept S w w') (hs : ∀ b off, a = some ⟨b, off, none⟩ → ¬ S b) : TR w' a n l := by
  refine ⟨h.1, ?_⟩
  rcases h.2 with h0 | ⟨b, off, e, hc⟩
  · exact .inl h0
  · exact .inr ⟨b, off, e, fun j hj => kept_cell hk (hc j hj) (hs b off e)⟩
end Go.Proofs.YtcooapflofiolaaDoor
namespace Go.Proofs.YtcooapflofiolaaDoor.MS
open Go Go.RowKit Go.Shelf
set_option linter.unusedVariables false
set_option linter.unusedSimpArgs false
set_option maxRecDepth 100000
set_option maxHeartbeats 4000000
theorem frozen_cells {w : World} {b i : Nat} {C : Array Value} {t : TypeId} (h : w.heap[b]? = some (.cells C t (0, 0))) : w.frozen? ⟨b, i, none⟩ = false := by
  unfold World.frozen?; simp [h]
/-- A walk in memory: the map it goes through, and the keys that are ahead; all of it at or above a block. -/
def Wk (w : World) (wl b : Nat) (pb : Nat) (l : List ByteArray) : Prop := ∃ a c, w.heap[b]? = some (.cells #[.pointer (some ⟨pb, 0, none⟩), .slice a l.length c] 119 (0, 0)) ∧ TR w a l.length l ∧ l.length ≤ c ∧ (∀ g off, a = some ⟨g, off, none⟩ → wl ≤ g ∧ g ≠ b) ∧ wl ≤ b
theorem Wk.kept {w w' : World} {S : Nat → Prop} {wl b pb : Nat} {l : List ByteArray} (h : Wk w wl b pb l) (hk : Kept S w w') (hs : ∀ j, wl ≤ j → ¬ S j) : Wk w' wl b pb l := by
  obtain ⟨a, c, h1, h2, h3, h4, h5⟩ := h
  exact ⟨a, c, (hk.block b (Array.getElem?_eq_some_iff.1 h1).1 (hs b h5)).trans h1, h2.kept hk (fun g off e => hs g (h4 g off e).1), h3, h4, h5⟩
theorem Wk.below {w w' : World} {wl b pb : Nat} {l : List ByteArray} (h : Wk w wl b pb l) (hb : Below w.heap.size w w') : Wk w' wl b pb l :=
  h.kept (Kept.of (S := fun _ => False) hb (Nat.le_refl _)) (fun _ _ h => h)
theorem wnew_any (p : Pl) (k0 k1 : BitVec 64) (m : Mp VT) (w : World) (h : At w p k0 k1 m) (I : MInv (hashN k0 k1) m) :
    Calls Tryd.prog 24 #[.pointer (some ⟨p.b, 0, none⟩)] w fun e w' => ∃ b, e = .returned (.pointer (some ⟨b, 0, none⟩)) ∧ Wk w' w.heap.size b p.b (keysL m) ∧ Below w.heap.size w w' := by
  have HK := Lib.hid (keys_any p k0 k1 m w h I)
  have HKL : Hid ((keysL m).length = m.n) := by show _ = _; unfold keysL; rw [List.length_map, full_len I]
  clear h I
  go_enter Tryd.func24, Tryd.ntmps24
  go_wp2_with fail
  refine HK.out.mono ?_
  rintro e w1 ⟨v, rfl, hv, hb⟩
  obtain ⟨a, c, rfl, hc⟩ := own_val hv
  have HV := Lib.hid hv
  have HB := Lib.hid hb
  clear hv hb
  go_wp2
  go_ret
  refine ⟨w1.heap.size, rfl, ⟨a, c, by rw [HKL.out]; exact heap_alloc_new w1 _, ?_, by rw [HKL.out]; exact hc, ?_, HB.out.size⟩, HB.out.alloc HB.out.size _⟩
  · rw [HKL.out]
    refine ⟨HKL.out, ?_⟩
    rcases Nat.eq_zero_or_pos m.n with h0 | h0
    · exact .inl h0
    · obtain ⟨g, cap, e, _, _, hg, hcell⟩ := own_read HV.out h0
      injection e with e1 _ _
      subst e1
      refine .inr ⟨g, 0, rfl, fun j hj => ?_⟩
      have hj' : j < (keysL m).length := by rw [HKL.out]; exact hj
      have := hcell j (.string ((keysL m).getD j default)) (by simp [textsV, hj'])
      rw [Nat.zero_add]
      exact low_cell ((Below.refl _ w1).alloc (Nat.le_refl _) _) (Nat.le_refl _) this
  · intro g off e
    rcases HV.out.2 with ⟨h1, _⟩ | ⟨g', cap, cur, h1, h2, h3, h4⟩
    · injection h1 with h1 _ _; rw [h1] at e; cases e
    · injection h1 with h1 _ _
      rw [h1] at e
      injection e with e
      injection e with e _
      subst e
      exact ⟨h2, Nat.ne_of_lt (Array.getElem?_eq_some_iff.1 h3).1⟩
theorem left_any (wl b pb : Nat) (l : List ByteArray) (w : World) (h : Wk w wl b pb l) :
    Calls Tryd.prog 29 #[.pointer (some ⟨b, 0, none⟩)] w fun e w' => e = .returned (.int .i64 (l.length : Nat)) ∧ w = w' := by
  obtain ⟨a, c, h1, _⟩ := h
  have c1 : w.cell? ⟨b, 1, none⟩ = some (.slice a l.length c) := by unfold World.cell?; simp [h1]
  clear h1
  go_enter Tryd.func29, Tryd.ntmps29
  go_wp2
  go_ret
  exact ⟨rfl, rfl⟩
def aheadOf (b : Nat) (w : World) : Nat := match w.cell? ⟨b, 1, none⟩ with | some (.slice _ n _) => n | _ => 0
/-- What Next answers, and the keys that are then ahead. -/
def nextL (H : ByteArray → Nat) (m : Mp VT) : List ByteArray → (ByteArray × VT × Bool) × List ByteArray
  | [] => ((ByteArray.empty, default, false), [])
  | k :: r => if (getV H m k).2 then ((k, (getV H m k).1, true), r) else nextL H m r
theorem next_any (p : Pl) (k0 k1 : BitVec 64) (m : Mp VT) (b : Nat) (l : List ByteArray) (w : World) (lo : Nat) (h : Live w lo p k0 k1 m) (wl : Nat) (hw : Wk w wl b p.b l) (hk : ∀ k, k ∈ l → k.size ≤ maxLen) (hb : ¬ p.own b) (h0 : 0 < b) :
    Calls Tryd.prog 27 #[.pointer (some ⟨b, 0, none⟩)] w fun e w' => e = .returned (.tuple #[.string (nextL (hashN k0 k1) m l).1.1, val (nextL (hashN k0 k1) m l).1.2.1, .bool (nextL (hashN k0 k1) m l).1.2.2]) ∧ Wk w' wl b p.b (nextL (hashN k0 k1) m l).2 ∧ Kept (· = b) w w' := by
  have HL := Lib.hid h
  have HW := Lib.hid hw
  have HKS := Lib.hid hk
  have HNB := Lib.hid hb
  clear h hw hk hb
  go_enter Tryd.func27, Tryd.ntmps27
  go_wp2
  go_loopw [3] (fun s wr => s = .string ByteArray.empty ∧ ∃ l', Wk wr wl b p.b l' ∧ nextL (hashN k0 k1) m l' = nextL (hashN k0 k1) m l ∧ (∀ k, k ∈ l' → k ∈ l) ∧ Kept (· = b) w wr) (fun _ wr => aheadOf b wr)
  case atStart => exact ⟨rfl, l, HW.out, rfl, fun k h => h, Kept.refl _ _⟩
  case round =>
    obtain ⟨rfl, l', hw', hn, hsub, hK⟩ := hrel
    have HN := Lib.hid hn
    have HSUB := Lib.hid hsub
    have HK := Lib.hid hK
    obtain ⟨a, c, h1, h2, h3, h4, h5⟩ := hw'
    have c0 : wr.cell? ⟨b, 0, none⟩ = some (.pointer (some ⟨p.b, 0, none⟩)) := by unfold World.cell?; simp [h1]
    have c1 : wr.cell? ⟨b, 1, none⟩ = some (.slice a l'.length c) := by unfold World.cell?; simp [h1]
    have f1 : wr.frozen? ⟨b, 1, none⟩ = false := frozen_cells h1
    have H1 := Lib.hid h1
    clear hn hsub hK h1
    cases l' with
    | nil =>
      have HNE : Hid ((ByteArray.empty, default, false) = (nextL (hashN k0 k1) m l).1 ∧ ([] : List ByteArray) = (nextL (hashN k0 k1) m l).2) := by
        have := HN.out
        constructor
        · rw [← this]; rfl
        · rw [← this]; rfl
      have HW2 : Hid (Wk wr wl b p.b []) := ⟨a, c, H1.out, h2, h3, h4, h5⟩
      clear h2 h3 h4
      go_wp2
      refine bodyPost_ret (v := .tuple #[.string ByteArray.empty, val default, .bool false]) ?_ rfl ⟨?_, ?_, HK.out⟩
      · simp [results, Tryd.results27, go_sem]; exact ⟨rfl, rfl⟩
      · rw [← HNE.out.1]
      · rw [← HNE.out.2]; exact HW2.out
    | cons k r =>
      obtain ⟨g, off, rfl, hc⟩ := h2.2.resolve_left (by simp)
      have x0 := hc 0 (by simp)
      rw [Nat.add_zero] at x0
      have x0' : wr.cell? ⟨g, off, none⟩ = some (.string k) := x0
      obtain ⟨hgl, hgb⟩ := h4 g off rfl
      have HTR := Lib.hid h2
      have hkz := HKS.out k (HSUB.out k (List.mem_cons_self ..))
      have hr : r.length + 1 ≤ c := h3
      by_cases hc1 : c = 1
      · subst hc1
        obtain rfl : r = [] := List.length_eq_zero_iff.1 (by omega)
        obtain ⟨w2, hw2⟩ : ∃ w2, w2 = wr.setCell ⟨b, 1, none⟩ (.slice (some ⟨g, off, none⟩) 0 (0)) := ⟨_, rfl⟩
        have K2 : Hid (Kept (· = b) w w2) := by rw [hw2]; exact HK.out.setCell (p := ⟨b, 1, none⟩) (.inl rfl) _
        have KR : Hid (Kept (· = b) wr w2) := by rw [hw2]; exact (Kept.refl (· = b) wr).setCell (p := ⟨b, 1, none⟩) (.inl rfl) _
        have h12 : w2.heap[b]? = some (.cells #[.pointer (some ⟨p.b, 0, none⟩), .slice (some ⟨g, off, none⟩) 0 (0)] 119 (0, 0)) := by
          rw [hw2]; exact heap_setCell_same _ _ 1 _ _ _ H1.out
        have W2 : Hid (Wk w2 wl b p.b ([] : List ByteArray)) := ⟨_, _, h12, ⟨rfl, .inl (by omega)⟩, by omega, fun g' off' e => by injection e with e; injection e with e _; subst e; exact ⟨hgl, hgb⟩, h5⟩
        have L2 : Hid (Live w2 lo p k0 k1 m) := HL.out.kept K2.out (fun j hj e => HNB.out (e ▸ hj)) (fun e => by omega)
        have HGE := Lib.hid (get_any p k0 k1 m k hkz w2 L2.out.at_ L2.out.inv)
        have d0 : w2.cell? ⟨b, 0, none⟩ = some (.pointer (some ⟨p.b, 0, none⟩)) := by unfold World.cell?; simp [h12]
        have HW2 := Lib.hid hw2
        have hm1 : aheadOf b wr = 1 := by unfold aheadOf; rw [c1]; rfl
        have HM1 := Lib.hid hm1
        clear hc x0 h2 h12 hw2 hgb hkz hm1
        go_upto_region 4 with fail
        rw [← HW2.out]
        cases hg : (getV (hashN k0 k1) m k).2 with
        | true =>
          rw [hg] at HGE
          have HNE : Hid ((k, (getV (hashN k0 k1) m k).1, true) = (nextL (hashN k0 k1) m l).1 ∧ ([] : List ByteArray) = (nextL (hashN k0 k1) m l).2) := by
            have := HN.out
            constructor
            · rw [← this]; unfold nextL; rw [if_pos hg]
            · rw [← this]; unfold nextL; rw [if_pos hg]
          clear hg
          go_wp2_with fail
          refine HGE.out.mono ?_
          rintro e w3 ⟨rfl, hb3⟩
          have HB3 := Lib.hid hb3
          clear hb3
          go_wp2
          refine bodyPost_ret (v := .tuple #[.string k, val (getV (hashN k0 k1) m k).1, .bool true]) ?_ rfl ⟨?_, ?_, K2.out.bl HB3.out K2.out.size⟩
          · simp [results, Tryd.results27, go_sem]
          · rw [← HNE.out.1]
          · rw [← HNE.out.2]; exact W2.out.below HB3.out
        | false =>
          rw [hg] at HGE
          have HNE : Hid (nextL (hashN k0 k1) m ([] : List ByteArray) = nextL (hashN k0 k1) m l) := by
            have := HN.out
            show _ = _
            rw [← this]
            conv => rhs; unfold nextL
            rw [if_neg (by rw [hg]; decide)]
          clear hg
          go_wp2_with fail
          refine HGE.out.mono ?_
          rintro e w3 ⟨rfl, hb3⟩
          have HB3 := Lib.hid hb3
          have W3 : Hid (Wk w3 wl b p.b ([] : List ByteArray)) := W2.out.below HB3.out
          have hm3 : aheadOf b w3 = 0 := by
            obtain ⟨a', c', h, _⟩ := W3.out
            have : w3.cell? ⟨b, 1, none⟩ = some (.slice a' 0 c') := by unfold World.cell?; simp [h]
            unfold aheadOf; rw [this]
          have HM3 := Lib.hid hm3
          clear hb3 hm3
          go_wp2
          go_roundw
          case rel => exact ⟨rfl, ([] : List ByteArray), W3.out, HNE.out, fun u hu => HSUB.out u (List.mem_cons_of_mem _ hu), K2.out.bl HB3.out K2.out.size⟩
          case measure => rw [HM1.out, HM3.out]; omega
      · have hc1' : (c == 1) = false := by simpa using hc1
        obtain ⟨w2, hw2⟩ : ∃ w2, w2 = wr.setCell ⟨b, 1, none⟩ (.slice (some ⟨g, off + 1, none⟩) r.length (c - 1)) := ⟨_, rfl⟩
        have K2 : Hid (Kept (· = b) w w2) := by rw [hw2]; exact HK.out.setCell (p := ⟨b, 1, none⟩) (.inl rfl) _
        have KR : Hid (Kept (· = b) wr w2) := by rw [hw2]; exact (Kept.refl (· = b) wr).setCell (p := ⟨b, 1, none⟩) (.inl rfl) _
        have h12 : w2.heap[b]? = some (.cells #[.pointer (some ⟨p.b, 0, none⟩), .slice (some ⟨g, off + 1, none⟩) r.length (c - 1)] 119 (0, 0)) := by
          rw [hw2]; exact heap_setCell_same _ _ 1 _ _ _ H1.out
        have W2 : Hid (Wk w2 wl b p.b r) := ⟨_, _, h12, (HTR.out.drop).kept KR.out (fun b' off' e => by injection e with e; injection e with e _; subst e; exact hgb), by omega, fun g' off' e => by injection e with e; injection e with e _; subst e; exact ⟨hgl, hgb⟩, h5⟩
        have L2 : Hid (Live w2 lo p k0 k1 m) := HL.out.kept K2.out (fun j hj e => HNB.out (e ▸ hj)) (fun e => by omega)
        have HGE := Lib.hid (get_any p k0 k1 m k hkz w2 L2.out.at_ L2.out.inv)
        have d0 : w2.cell? ⟨b, 0, none⟩ = some (.pointer (some ⟨p.b, 0, none⟩)) := by unfold World.cell?; simp [h12]
        have hlen : (1 : Int) ≤ (r.length : Int) + 1 := by omega
        have hcc2 : (r.length : Int) + 1 ≤ (c : Int) := by omega
        have HW2 := Lib.hid hw2
        have hm1 : aheadOf b wr = r.length + 1 := by unfold aheadOf; rw [c1]; rfl
        have HM1 := Lib.hid hm1
        clear hc x0 h2 h12 hw2 hgb hkz hm1
        go_upto_region 4 with fail
        rw [← HW2.out]
        cases hg : (getV (hashN k0 k1) m k).2 with
        | true =>
          rw [hg] at HGE
          have HNE : Hid ((k, (getV (hashN k0 k1) m k).1, true) = (nextL (hashN k0 k1) m l).1 ∧ r = (nextL (hashN k0 k1) m l).2) := by
            have := HN.out
            constructor
            · rw [← this]; unfold nextL; rw [if_pos hg]
            · rw [← this]; unfold nextL; rw [if_pos hg]
          clear hg
          go_wp2_with fail
          refine HGE.out.mono ?_
          rintro e w3 ⟨rfl, hb3⟩
          have HB3 := Lib.hid hb3
          clear hb3
          go_wp2
          refine bodyPost_ret (v := .tuple #[.string k, val (getV (hashN k0 k1) m k).1, .bool true]) ?_ rfl ⟨?_, ?_, K2.out.bl HB3.out K2.out.size⟩
          · simp [results, Tryd.results27, go_sem]
          · rw [← HNE.out.1]
          · rw [← HNE.out.2]; exact W2.out.below HB3.out
        | false =>
          rw [hg] at HGE
          have HNE : Hid (nextL (hashN k0 k1) m r = nextL (hashN k0 k1) m l) := by
            have := HN.out
            show _ = _
            rw [← this]
            conv => rhs; unfold nextL
            rw [if_neg (by rw [hg]; decide)]
          clear hg
          go_wp2_with fail
          refine HGE.out.mono ?_
          rintro e w3 ⟨rfl, hb3⟩
          have HB3 := Lib.hid hb3
          have W3 : Hid (Wk w3 wl b p.b r) := W2.out.below HB3.out
          have hm3 : aheadOf b w3 = r.length := by
            obtain ⟨a', c', h, _⟩ := W3.out
            have : w3.cell? ⟨b, 1, none⟩ = some (.slice a' r.length c') := by unfold World.cell?; simp [h]
            unfold aheadOf; rw [this]
          have HM3 := Lib.hid hm3
          clear hb3 hm3
          go_wp2
          go_roundw
          case rel => exact ⟨rfl, r, W3.out, HNE.out, fun u hu => HSUB.out u (List.mem_cons_of_mem _ hu), K2.out.bl HB3.out K2.out.size⟩
          case measure => rw [HM1.out, HM3.out]; omega
end Go.Proofs.YtcooapflofiolaaDoor.MS

/- What SwissBounds needs of the plain map: the words' sums. -/
namespace Go.Proofs.YtcooapflofiolaaDoor
set_option linter.unusedSectionVars false
set_option linter.unusedVariables false
set_option linter.unusedSimpArgs false
theorem cnt_split (p : Nat → Bool) (a : Nat) : ∀ b, cnt p (a + b) = cnt p a + cnt (fun i => p (a + i)) b
  | 0 => rfl
  | b + 1 => by rw [← Nat.add_assoc, cnt, cnt, cnt_split p a b]; omega
theorem cntF_cnt (x : Nat) {p : Nat → Bool} (h : ∀ i, i < 8 → x.testBit i = p i) : cntF x = cnt p 8 := by
  unfold cntF; rw [cnt_filter]; exact cnt_congr h
section
variable {V : Type} [Inhabited V] {H : ByteArray → Nat} {m : Mp V}
def fulC (m : Mp V) (j : Nat) : Nat := cnt (fun i => decide (m.c i < 128)) (8 * j)
def freC (m : Mp V) (j : Nat) : Nat := cnt (fun i => m.c i == 128 || m.c i == 254) (8 * j)
def empC (m : Mp V) (j : Nat) : Nat := cnt (fun i => m.c i == 128) (8 * j)
theorem fulC_succ (m : Mp V) (j : Nat) : fulC m (j + 1) = fulC m j + cntF (ful (m.w j)) := by
  unfold fulC; rw [Nat.mul_add, Nat.mul_one, cnt_split, cntF_cnt (p := fun i => decide (m.c (8 * j + i) < 128)) _ (fun i hi => by rw [bit_ful _ _ hi, c_at m j hi])]
theorem freC_succ (m : Mp V) (j : Nat) : freC m (j + 1) = freC m j + cntF (fre (m.w j)) := by
  unfold freC; rw [Nat.mul_add, Nat.mul_one, cnt_split, cntF_cnt (p := fun i => m.c (8 * j + i) == 128 || m.c (8 * j + i) == 254) _ (fun i hi => by rw [bit_fre _ _ hi, c_at m j hi])]
theorem empC_succ (m : Mp V) (j : Nat) : empC m (j + 1) = empC m j + cntF (mch (m.w j) 128) := by
  unfold empC; rw [Nat.mul_add, Nat.mul_one, cnt_split, cntF_cnt (p := fun i => m.c (8 * j + i) == 128) _ (fun i hi => by rw [bit_mch _ _ _ hi, c_at m j hi])]
theorem sums_le (m : Mp V) (j : Nat) : fulC m j ≤ 8 * j ∧ freC m j ≤ 8 * j ∧ empC m j ≤ 8 * j := ⟨cnt_le _ _, cnt_le _ _, cnt_le _ _⟩
theorem cntF_le (x : Nat) : cntF x ≤ 8 := by
  unfold cntF; rw [cnt_filter]; exact cnt_le _ _
theorem sums_end (I : MInv H m) : fulC m m.ws.length = m.n ∧ freC m m.ws.length = empC m m.ws.length + m.tb := by
  refine ⟨I.cn.symm, ?_⟩
  unfold freC empC
  rw [I.ctb]
  refine cnt_add fun i _ => ?_
  show (m.c i == 128 || m.c i == 254).toNat = (m.c i == 128).toNat + (m.c i == 254).toNat
  by_cases h1 : m.c i = 128
  · rw [h1]; rfl
  · by_cases h2 : m.c i = 254
    · rw [h2]; rfl
    · rw [beq_false_of_ne h1, beq_false_of_ne h2]; rfl
end
end Go.Proofs.YtcooapflofiolaaDoor
namespace Go.Proofs.YtcooapflofiolaaDoor.MS
theorem key_at {w : World} {lo : Nat} {p : Pl} {k0 k1 : BitVec 64} {m : Mp VT} (h : Live w lo p k0 k1 m) {i : Nat} (hi : i < m.n) :
    ∃ s : ByteArray, (textsV (keysL m))[i]? = some (.string s) ∧ s = (keysL m).getD i default ∧ s.size ≤ maxLen ∧ (getV (hashN k0 k1) m s).2 = true ∧ Has m s (getV (hashN k0 k1) m s).1 := by
  have hl : (keysL m).length = m.n := by unfold keysL; rw [List.length_map, full_len h.inv]
  have hl2 : (fullL m).length = m.n := full_len h.inv
  have hi2 : i < (fullL m).length := by omega
  have hm : ((fullL m)[i].1, (fullL m)[i].2) ∈ fullL m := List.getElem_mem hi2
  have hh := mem_full.1 hm
  have hf := (find_has h.inv).1 ⟨_, hh⟩
  obtain ⟨x, hx⟩ := Option.ne_none_iff_exists'.1 hf
  have hg : getV (hashN k0 k1) m (fullL m)[i].1 = ((m.s x).2, true) := by unfold getV; rw [hx]
  refine ⟨(fullL m)[i].1, by simp [textsV, keysL, hi2], by simp [keysL, hi2], h.keys _ _ hh, by rw [hg], ?_⟩
  rw [hg]
  have := (find_val h.inv hx).1 hh
  rw [← this]; exact hh
theorem key_ne {w : World} {lo : Nat} {p : Pl} {k0 k1 : BitVec 64} {m : Mp VT} (h : Live w lo p k0 k1 m) {i j : Nat} (hi : i < m.n) (hj : j < i) : (keysL m).getD i default ≠ (keysL m).getD j default := by
  have hl2 : (fullL m).length = m.n := full_len h.inv
  have := List.pairwise_iff_getElem.1 (full_pair h.inv) j i (by omega) (by omega) hj
  intro e
  apply this
  have e1 : ∀ k (hk : k < (fullL m).length), (keysL m).getD k default = (fullL m)[k].1 := fun k hk => by simp [keysL, hk]
  rw [e1 i (by omega), e1 j (by omega)] at e
  exact e.symm
end Go.Proofs.YtcooapflofiolaaDoor.MS

/- lives of chapter 6: a walk over three keys. -/
namespace Go.Proofs.YtcooapflofiolaaDoor
section
variable {V : Type} [Inhabited V] {H : ByteArray → Nat} {m : Mp V}
set_option linter.unusedSectionVars false
theorem n_pos (I : MInv H m) {k : ByteArray} {v : V} (h : Has m k v) : 1 ≤ m.n := by
  rw [← full_len I]
  exact List.length_pos_of_mem (mem_full.2 h)
theorem put_n (I : MInv H m) (key : ByteArray) (v : V) (hn : m.n < 2000) : (put H m key v).n ≤ m.n + 1 ∧ 1 ≤ (put H m key v).n := by
  refine ⟨?_, n_pos (put_inv I key v) ((put_has I (.inl hn) key v).2 (by rw [if_pos rfl]))⟩
  cases hf : find H m key with
  | some x => rw [(put_some I hf).2.1]; omega
  | none => rw [(put_none I hf hn).2.1]; omega
end
end Go.Proofs.YtcooapflofiolaaDoor
namespace Go.Proofs.YtcooapflofiolaaDoor.MS
open Go Go.RowKit Go.Shelf
set_option linter.unusedVariables false
set_option linter.unusedSimpArgs false
set_option maxRecDepth 100000
set_option maxHeartbeats 4000000
section
variable {H : ByteArray → Nat} {m : Mp VT}
theorem getV_none (I : MInv H m) {k : ByteArray} (h : ∀ v, ¬ Has m k v) : (getV H m k).2 = false := by
  unfold getV
  cases hf : find H m k with
  | none => rfl
  | some x =>
    obtain ⟨v, hv⟩ := (find_has I).2 (by rw [hf]; simp)
    exact absurd hv (h v)
theorem nextL_none : ∀ {l : List ByteArray}, (∀ k, k ∈ l → (getV H m k).2 = false) → nextL H m l = ((ByteArray.empty, default, false), [])
  | [], _ => rfl
  | k :: r, h => by
    unfold nextL
    rw [if_neg (by rw [h k (List.mem_cons_self ..)]; decide)]
    exact nextL_none fun u hu => h u (List.mem_cons_of_mem _ hu)
theorem keysL_len (I : MInv H m) : (keysL m).length = m.n := by unfold keysL; rw [List.length_map, full_len I]
theorem mem_keysL {k : ByteArray} : k ∈ keysL m ↔ ∃ v, Has m k v := by
  unfold keysL
  rw [List.mem_map]
  constructor
  · rintro ⟨⟨k', v⟩, h, rfl⟩
    exact ⟨v, mem_full.1 h⟩
  · rintro ⟨v, h⟩
    exact ⟨(k, v), mem_full.2 h, rfl⟩
theorem keysL_nodup (I : MInv H m) : (keysL m).Nodup := by
  have := full_pair I
  unfold keysL List.Nodup
  rw [List.pairwise_map]
  exact this
theorem one_left (I : MInv H m) {m' : Mp VT} (I' : MInv H m') {k0 : ByteArray} (h0 : ∃ v, Has m k0 v) (h : ∀ k v, Has m' k v ↔ Has m k v ∧ k = k0) : m'.n = 1 := by
  obtain ⟨v, hv⟩ := h0
  have h1 := n_pos I' ((h k0 v).2 ⟨hv, rfl⟩)
  have hn := keysL_nodup I'
  have hl := keysL_len I'
  rcases hk : keysL m' with _ | ⟨a, _ | ⟨b, r⟩⟩
  · rw [hk] at hl; simp at hl; omega
  · rw [hk] at hl; simp at hl; omega
  · rw [hk] at hn
    have ha : a ∈ keysL m' := by rw [hk]; simp
    have hb : b ∈ keysL m' := by rw [hk]; simp
    obtain ⟨va, ha⟩ := mem_keysL.1 ha
    obtain ⟨vb, hb⟩ := mem_keysL.1 hb
    have e1 := ((h _ _).1 ha).2
    have e2 := ((h _ _).1 hb).2
    subst e1
    subst e2
    simp at hn
end
theorem wlives_any (w : World) (hS : Sh w) : Calls Tryd.prog 22 #[] w fun e w' => e = .returned (.bool true) ∧ Below w.heap.size w w' := by
  have HN := Lib.hid (new_live 0 0 0 w hS)
  rw [show Sip.U (0 : BitVec 64) = 0 from rfl] at HN
  have hneed : needF 0 = 1 := by rfl
  have hpos := Lib.hid (sh_pos hS)
  go_enter Tryd.func22, Tryd.ntmps22
  go_wp2_with fail
  refine HN.out.mono ?_
  rintro e w1 ⟨hb, ⟨h0, _⟩ | ⟨p, g, hg, rfl, hL⟩⟩
  · rw [hneed] at h0; cases h0
  rw [hneed] at hg
  obtain rfl : g = 1 := by omega
  have HL := Lib.hid hL
  have HB := Lib.hid hb
  clear hb hL hg hneed
  go_wp2
  go_loopw [16] (fun i wr => ∃ (k : Nat) (q : Pl) (m : Mp VT), k ≤ 3 ∧ i = .int .i64 k ∧ q.b = p.b ∧ Live wr w.heap.size q 0 0 m ∧ m.n ≤ k ∧ (1 ≤ k → 1 ≤ m.n) ∧ Below w.heap.size w wr) (fun i _ => 3 - (intOf i).toNat)
  case atStart => exact ⟨0, p, _, by omega, rfl, rfl, HL.out, Nat.le_refl _, by omega, HB.out⟩
  case round =>
    obtain ⟨k, q, m, hk, rfl, hq, hLq, hn, hn1, hB⟩ := hrel
    have HLq := Lib.hid hLq
    have HBr := Lib.hid hB
    have HQ := Lib.hid hq
    have HN1 := Lib.hid hn1
    clear hLq hB hq hn1
    by_cases hlt : k < 3
    · have hd : decide ((k : Int) < 3) = true := decide_eq_true (by omega)
      obtain ⟨key, hkey⟩ : ∃ key : ByteArray, key = ⟨#[UInt8.ofNat (97 + k)]⟩ := ⟨_, rfl⟩
      have hix : (Instr.index 111 (.agg #[.string ⟨#[97]⟩, .string ⟨#[98]⟩, .string ⟨#[99]⟩]) (.int .i64 k)).run Tryd.prog wr = .ok (.string key) wr := by
        rw [hkey]
        rcases (show k = 0 ∨ k = 1 ∨ k = 2 by omega) with rfl | rfl | rfl <;> simp [Instr.index, go_sem]
      have HPU := Lib.hid (put_live HLq.out key key (by rw [hkey]; exact (by decide : 1 ≤ maxLen)))
      obtain ⟨z1, z2⟩ := put_n HLq.out.inv key key (by omega)
      obtain ⟨m2, hm2⟩ : ∃ m2, m2 = put (hashN 0 0) m key key := ⟨_, rfl⟩
      rw [← hm2, HQ.out] at HPU
      rw [← hm2] at z1 z2
      clear hm2 hkey
      go_wp2_with fail
      refine HPU.out.mono ?_
      rintro e w2 ⟨rfl, q2, hq2, hL2, _, hK2⟩
      have L2 := Lib.hid hL2
      have B2 : Hid (Below w.heap.size w w2) := HBr.out.trans (HLq.out.low hK2)
      have HQ2 := Lib.hid (hq2.trans HQ.out)
      clear hL2 hK2 hq2
      go_wp2_with fail
      go_roundw
      case rel => exact ⟨k + 1, q2, m2, by omega, by go_num, HQ2.out, L2.out, by omega, fun _ => z2, B2.out⟩
      case measure => simp [intOf]; omega
    · obtain rfl : k = 3 := by omega
      have hn1 : 1 ≤ m.n := HN1.out (by omega)
      obtain ⟨wC, hwC⟩ : ∃ wC, wC = wr := ⟨_, rfl⟩
      rw [← hwC] at HLq HBr ⊢
      clear hwC
      have HQL : Hid (∀ j, q.own j → j < wC.heap.size) := fun j hj => HLq.out.at_.lt hj
      have HWN := Lib.hid (wnew_any q 0 0 m wC HLq.out.at_ HLq.out.inv)
      rw [HQ.out] at HWN
      obtain ⟨s0, e1, e2, e3, e4, e5⟩ := key_at HLq.out (i := 0) (by omega)
      obtain ⟨rest, hks⟩ : ∃ rest, keysL m = s0 :: rest := by
        have := keysL_len HLq.out.inv
        cases hk : keysL m with
        | nil => rw [hk] at this; simp at this; omega
        | cons a r => rw [hk] at e2; simp at e2; subst e2; exact ⟨r, rfl⟩
      have HNX : Hid (nextL (hashN 0 0) m (keysL m) = ((s0, (getV (hashN 0 0) m s0).1, true), rest)) := by
        show _ = _
        rw [hks]
        unfold nextL
        rw [if_pos e4]
      have HKS := Lib.hid hks
      have E5 : Hid (∃ v, Has m s0 v) := ⟨_, e5⟩
      clear e1 e2 e3 e4 e5 hks
      go_wp2_with fail
      refine HWN.out.mono ?_
      rintro e w4 ⟨b, rfl, hwk, hb4⟩
      have W4 : Hid (Wk w4 wC.heap.size b q.b (keysL m)) := by show Wk _ _ _ _ _; rw [HQ.out]; exact hwk
      have hbu : b < w4.heap.size := by obtain ⟨_, _, h, _⟩ := hwk; exact (Array.getElem?_eq_some_iff.1 h).1
      have HBU := Lib.hid hbu
      clear hbu
      have hbl : wC.heap.size ≤ b := by obtain ⟨_, _, _, _, _, _, h⟩ := hwk; exact h
      have L4 := Lib.hid (HLq.out.below (Nat.le_refl _) hb4)
      have B4 : Hid (Below w.heap.size w w4) := HBr.out.trans (hb4.mono HBr.out.size)
      have S4 : Hid (wC.heap.size ≤ w4.heap.size) := hb4.size
      have hwp := hpos.out
      have hwc := HBr.out.size
      have HNA := Lib.hid (next_any q 0 0 m b (keysL m) w4 w.heap.size L4.out wC.heap.size W4.out (fun k hk => by obtain ⟨v, hv⟩ := mem_keysL.1 hk; exact L4.out.keys k v hv) (fun h => by have := HQL.out b h; omega) (by omega))
      rw [HNX.out] at HNA
      obtain ⟨gv, hgv⟩ : ∃ gv, gv = (getV (hashN 0 0) m s0).1 := ⟨_, rfl⟩
      rw [← hgv] at HNA
      clear hwk hb4 hgv
      go_wp2_with fail
      refine HNA.out.mono ?_
      rintro e w5 ⟨rfl, hwk, hk5⟩
      have W5 := Lib.hid hwk
      have L5 : Hid (Live w5 w.heap.size q 0 0 m) := L4.out.kept hk5 (fun j hj e => by have := HQL.out j hj; omega) (fun e => by omega)
      have B5 : Hid (Below w.heap.size w w5) := B4.out.trans (hk5.below (by have := S4.out; omega) (fun j _ e => by omega))
      have S45 : Hid (w4.heap.size ≤ w5.heap.size) := hk5.size
      have S5 : Hid (wC.heap.size ≤ w5.heap.size) := Nat.le_trans S4.out hk5.size
      have HKE := Lib.hid (keys_any q 0 0 m w5 L5.out.at_ L5.out.inv)
      rw [HQ.out] at HKE
      clear hwk hk5
      go_wp2_with fail
      refine HKE.out.mono ?_
      rintro e w6 ⟨v, rfl, hv, hb6⟩
      obtain ⟨va, vc, rfl, hvc⟩ := own_val hv
      have VK := Lib.hid hv
      have L6 := Lib.hid (L5.out.below (Nat.le_refl _) hb6)
      have W6 := Lib.hid (W5.out.below hb6)
      have B6 : Hid (Below w.heap.size w w6) := B5.out.trans (hb6.mono B5.out.size)
      have S6 : Hid (wC.heap.size ≤ w6.heap.size) := Nat.le_trans S5.out hb6.size
      obtain ⟨n, hnn⟩ : ∃ n, n = m.n := ⟨_, rfl⟩
      have HNN := Lib.hid hnn
      have hn3 : n ≤ 3 := by omega
      have S56 : Hid (w4.heap.size ≤ w6.heap.size) := Nat.le_trans S45.out hb6.size
      rw [← hnn] at VK
      rw [← hnn]
      clear hv hvc hb6 hnn
      go_wp2
      go_loopw [35] (fun i wr => ∃ (j : Nat) (q2 : Pl) (m2 : Mp VT), j ≤ n ∧ i = .int .i64 j ∧ q2.b = p.b ∧ Live wr w.heap.size q2 0 0 m2 ∧ (∀ i, q2.own i → q.own i ∨ w6.heap.size ≤ i) ∧ Kept q.own w6 wr ∧ (∀ k v, Has m2 k v ↔ Has m k v ∧ (k = s0 ∨ ∀ i, i < j → k ≠ (keysL m).getD i default))) (fun i _ => n - (intOf i).toNat)
      case atStart => exact ⟨0, q, m, by omega, rfl, HQ.out, L6.out, fun i hi => .inl hi, Kept.refl _ _, fun k v => ⟨fun h => ⟨h, .inr fun i hi => by omega⟩, fun h => h.1⟩⟩
      case round =>
        obtain ⟨j, q2, m2, hj, rfl, hq2, hL2, ho2, hk2, hh2⟩ := hrel
        have HL2 := Lib.hid hL2
        have HO2 := Lib.hid ho2
        have HK2 := Lib.hid hk2
        have HH2 := Lib.hid hh2
        have HQ2 := Lib.hid hq2
        clear hL2 ho2 hk2 hh2 hq2
        have B7 : Hid (Below w.heap.size w wr) := B6.out.trans (HK2.out.below (by have := S6.out; omega) (fun i _ h => L6.out.own i h))
        have hqo : Hid (∀ i, wC.heap.size ≤ i → ¬ q.own i) := fun i hi h => by have := HQL.out i h; omega
        by_cases hlt : j < n
        · have hd2 : decide ((j : Int) < (n : Int)) = true := decide_eq_true (by omega)
          have hkn : (j : Int) < (n : Int) := by omega
          obtain ⟨gg, cap, hv, _, hgb1, _, hcells⟩ := own_read VK.out (by omega)
          injection hv with hva _ hvc'
          subst hva
          obtain ⟨s, e1, e2, e3, _⟩ := key_at HLq.out (i := j) (by rw [← HNN.out]; exact hlt)
          have x0 := kept_cell HK2.out (hcells _ _ e1) (hqo.out _ (Nat.le_trans S5.out hgb1))
          have HE2 := Lib.hid e2
          have HE3 := Lib.hid e3
          clear hcells e1 e2 e3 hvc'
          by_cases hs : s = s0
          · have hne : (s.toList == s0.toList) = true := by rw [beq_toList]; exact decide_eq_true hs
            have HS0 := Lib.hid hs
            clear hs
            go_wp2_with fail
            go_roundw
            case rel =>
              refine ⟨j + 1, q2, m2, by omega, by go_num, HQ2.out, HL2.out, HO2.out, HK2.out, fun k v => ?_⟩
              rw [HH2.out]
              refine and_congr_right fun _ => ⟨?_, ?_⟩
              · rintro (h | h)
                · exact .inl h
                · by_cases hk : k = s0
                  · exact .inl hk
                  · refine .inr fun i hi => ?_
                    rcases Nat.lt_succ_iff_lt_or_eq.1 hi with h1 | rfl
                    · exact h i h1
                    · rw [← HE2.out, HS0.out]; exact hk
              · rintro (h | h)
                · exact .inl h
                · exact .inr fun i hi => h i (by omega)
            case measure => simp [intOf]; omega
          · have hne : (s.toList == s0.toList) = false := by rw [beq_toList]; exact decide_eq_false hs
            have HS0 := Lib.hid hs
            have HDE := Lib.hid (delete_live HL2.out s HE3.out)
            rw [HQ2.out] at HDE
            clear hs
            go_wp2_with fail
            refine HDE.out.mono ?_
            rintro e w8 ⟨rfl, q3, hq3, hL3, ho3, hk3⟩
            have L3 := Lib.hid hL3
            have O3 : Hid (∀ i, q3.own i → q.own i ∨ w6.heap.size ≤ i) := fun i hi => by
              rcases ho3 i hi with h | h
              · exact HO2.out i h
              · exact .inr (Nat.le_trans HK2.out.size h)
            have K3 : Hid (Kept q.own w6 w8) := HK2.out.join hk3 (fun _ h => h) (fun i hi h => (HO2.out i h).resolve_right (by omega))
            have HQ3 := Lib.hid (hq3.trans HQ2.out)
            clear hL3 ho3 hk3 hq3
            go_wp2_with fail
            go_roundw
            case rel =>
              refine ⟨j + 1, q3, _, by omega, by go_num, HQ3.out, L3.out, O3.out, K3.out, fun k v => ?_⟩
              rw [del_has HL2.out.inv, HH2.out]
              constructor
              · rintro ⟨h1, h2, h3⟩
                refine ⟨h2, h3.imp id fun h i hi => ?_⟩
                rcases Nat.lt_succ_iff_lt_or_eq.1 hi with h4 | rfl
                · exact h i h4
                · rw [← HE2.out]; exact h1
              · rintro ⟨h2, h3⟩
                refine ⟨fun e => ?_, h2, h3.imp id fun h i hi => h i (by omega)⟩
                rcases h3 with h3 | h3
                · exact HS0.out (e.symm.trans h3)
                · exact h3 j (by omega) (by rw [← HE2.out]; exact e)
            case measure => simp [intOf]; omega
        · obtain rfl : j = n := by omega
          have hd2 : decide ((j : Int) < (j : Int)) = false := decide_eq_false (by omega)
          have hall : ∀ k v, Has m2 k v ↔ Has m k v ∧ k = s0 := fun k v => by
            rw [HH2.out]
            refine and_congr_right fun h => ⟨fun h1 => h1.resolve_right fun h2 => ?_, .inl⟩
            obtain ⟨i, hi, e⟩ := List.getElem_of_mem (mem_keysL.2 ⟨v, h⟩)
            have hl := keysL_len HLq.out.inv
            exact h2 i (by rw [HNN.out]; omega) (by rw [List.getD_eq_getElem?_getD, List.getElem?_eq_getElem hi, ← e]; rfl)
          have hone := one_left HLq.out.inv HL2.out.inv E5.out hall
          have hnx : nextL (hashN 0 0) m2 rest = ((ByteArray.empty, default, false), []) := nextL_none fun k hk => getV_none HL2.out.inv fun v hv => by
            have e := ((hall k v).1 hv).2
            subst e
            have := keysL_nodup HLq.out.inv
            rw [HKS.out] at this
            exact (List.nodup_cons.1 this).1 hk
          have W7 : Hid (Wk wr wC.heap.size b q2.b rest) := by
            have := W6.out.kept HK2.out hqo.out
            rw [HQ.out, ← HQ2.out] at this
            exact this
          have HNB : Hid (¬ q2.own b) := fun h => by
            rcases HO2.out b h with h | h
            · exact hqo.out b hbl h
            · have := HBU.out; have := S56.out; omega
          have HNA := Lib.hid (next_any q2 0 0 m2 b rest wr w.heap.size HL2.out wC.heap.size W7.out (fun k hk => by obtain ⟨v, hv⟩ := mem_keysL.1 (show k ∈ keysL m by rw [HKS.out]; exact List.mem_cons_of_mem _ hk); exact HLq.out.keys k v hv) HNB.out (by omega))
          rw [hnx] at HNA
          have HONE := Lib.hid hone
          clear hall hnx hone
          go_wp2_with fail
          refine HNA.out.mono ?_
          rintro e w8 ⟨rfl, hwk, hk8⟩
          have W8 := Lib.hid hwk
          have HLE := Lib.hid (len_any q2 0 0 m2 w8 (HL2.out.at_.kept hk8 (fun j hj e => HNB.out (e ▸ hj))) HL2.out.len)
          have HLF := Lib.hid (left_any wC.heap.size b q2.b [] w8 hwk)
          rw [HQ2.out, HONE.out] at HLE
          have B8 : Hid (Below w.heap.size w w8) := B7.out.trans (hk8.below B7.out.size (fun i _ e => by omega))
          clear hwk hk8
          go_wp2_with fail
          refine HLE.out.mono ?_
          rintro e w9 ⟨rfl, rfl⟩
          go_wp2_with fail
          refine HLF.out.mono ?_
          rintro e w9 ⟨rfl, rfl⟩
          go_wp2
          go_ret
          exact ⟨rfl, B8.out⟩
end Go.Proofs.YtcooapflofiolaaDoor.MS

/- What SwissMaps needs of the plain map: two lists that tell what is in it. -/
namespace Go.Proofs.YtcooapflofiolaaDoor
set_option linter.unusedSectionVars false
set_option linter.unusedVariables false
/-- Keys and values in a row, as the law keeps them. -/
structure Kv (m : Mp ByteArray) (ks vs : List ByteArray) : Prop where
  len : vs.length = ks.length
  n : m.n = ks.length
  nd : ks.Nodup
  h : ∀ k v, Has m k v ↔ ∃ i : Nat, ks[i]? = some k ∧ vs[i]? = some v
section
variable {H : ByteArray → Nat} {m : Mp ByteArray} {ks vs : List ByteArray} {key v : ByteArray} {i : Nat}
theorem Kv.zero (g : Nat) : Kv (empty g) [] [] := ⟨rfl, rfl, List.nodup_nil, fun k v => ⟨fun h => absurd h (has_empty_not _ _ _), fun ⟨i, h, _⟩ => by simp at h⟩⟩
theorem Kv.val (h : Kv m ks vs) {k : ByteArray} (hk : ks[i]? = some k) : ∃ v, vs[i]? = some v ∧ Has m k v := by
  have hi := (List.getElem?_eq_some_iff.1 hk).1
  have hv : vs[i]? = some (vs[i]'(by rw [h.len]; exact hi)) := List.getElem?_eq_getElem _
  exact ⟨_, hv, (h.h _ _).2 ⟨i, hk, hv⟩⟩
theorem Kv.mem (h : Kv m ks vs) (I : MInv H m) : (find H m key).isSome = true ↔ key ∈ ks := by
  rw [find_some_iff I]
  constructor
  · rintro ⟨v, hv⟩
    obtain ⟨i, h1, _⟩ := (h.h _ _).1 hv
    exact List.mem_of_getElem? h1
  · intro hk
    obtain ⟨i, hi, e⟩ := List.getElem_of_mem hk
    obtain ⟨v, _, hv⟩ := h.val (i := i) (k := key) (by rw [List.getElem?_eq_getElem hi, e])
    exact ⟨v, hv⟩
theorem Kv.fnone (h : Kv m ks vs) (I : MInv H m) (hk : key ∉ ks) : find H m key = none := by
  cases hf : find H m key with
  | none => rfl
  | some x => exact absurd ((h.mem I).1 (by rw [hf]; rfl)) hk
theorem Kv.fsome (h : Kv m ks vs) (I : MInv H m) (hk : key ∈ ks) : ∃ x, find H m key = some x := by
  have := (h.mem I).2 hk
  exact Option.isSome_iff_exists.1 this
theorem Kv.put_new (h : Kv m ks vs) (I : MInv H m) (hk : key ∉ ks) (hn : m.n < 2000) (v : ByteArray) : Kv (put H m key v) (ks ++ [key]) (vs ++ [v]) := by
  obtain ⟨_, b, _, _, e, _⟩ := put_none I (v := v) (h.fnone I hk) hn
  have hl := h.len
  refine ⟨by simp [hl], by rw [b, h.n]; simp, ?_, fun k u => ?_⟩
  · rw [List.nodup_append]
    refine ⟨h.nd, by simp, fun a ha b hb => ?_⟩
    rw [List.mem_singleton] at hb
    subst hb
    exact fun e => hk (e ▸ ha)
  · rw [e]
    by_cases hkk : k = key
    · rw [if_pos hkk]
      subst hkk
      constructor
      · rintro rfl
        exact ⟨ks.length, by simp, by rw [← hl]; simp⟩
      · rintro ⟨i, h1, h2⟩
        rcases Nat.lt_or_ge i ks.length with hi | hi
        · rw [List.getElem?_append_left hi] at h1
          exact absurd (List.mem_of_getElem? h1) hk
        · have h3 := (List.getElem?_eq_some_iff.1 h1).1
          obtain rfl : i = ks.length := by simp at h3; omega
          rw [← hl] at h2
          simp at h2
          exact h2.symm
    · rw [if_neg hkk, h.h]
      constructor
      · rintro ⟨i, h1, h2⟩
        exact ⟨i, by rw [List.getElem?_append_left (List.getElem?_eq_some_iff.1 h1).1]; exact h1, by rw [List.getElem?_append_left (List.getElem?_eq_some_iff.1 h2).1]; exact h2⟩
      · rintro ⟨i, h1, h2⟩
        rcases Nat.lt_or_ge i ks.length with hi | hi
        · rw [List.getElem?_append_left hi] at h1
          rw [List.getElem?_append_left (by omega)] at h2
          exact ⟨i, h1, h2⟩
        · have h3 := (List.getElem?_eq_some_iff.1 h1).1
          obtain rfl : i = ks.length := by simp at h3; omega
          simp at h1
          exact absurd h1.symm hkk
theorem nodup_at {α : Type} {l : List α} (hn : l.Nodup) {i j : Nat} {a : α} (hi : l[i]? = some a) (hj : l[j]? = some a) : i = j := by
  obtain ⟨h1, e1⟩ := List.getElem?_eq_some_iff.1 hi
  obtain ⟨h2, e2⟩ := List.getElem?_eq_some_iff.1 hj
  rcases Nat.lt_trichotomy i j with h | h | h
  · exact absurd (e1.trans e2.symm) (List.pairwise_iff_getElem.1 hn i j h1 h2 h)
  · exact h
  · exact absurd (e2.trans e1.symm) (List.pairwise_iff_getElem.1 hn j i h2 h1 h)
theorem Kv.put_old (h : Kv m ks vs) (I : MInv H m) (hk : ks[i]? = some key) (v : ByteArray) : Kv (put H m key v) ks (vs.set i v) := by
  obtain ⟨x, hx⟩ := h.fsome I (List.mem_of_getElem? hk)
  obtain ⟨_, b, _, _, e⟩ := put_some I (v := v) hx
  have hl := h.len
  have hi := (List.getElem?_eq_some_iff.1 hk).1
  refine ⟨by rw [List.length_set]; exact hl, by rw [b]; exact h.n, h.nd, fun k u => ?_⟩
  rw [e]
  by_cases hkk : k = key
  · rw [if_pos hkk]
    subst hkk
    constructor
    · rintro rfl
      exact ⟨i, hk, by rw [List.getElem?_set_self (by omega)]⟩
    · rintro ⟨j, h1, h2⟩
      obtain rfl := nodup_at h.nd hk h1
      rw [List.getElem?_set_self (by omega)] at h2
      injection h2 with h2
      exact h2.symm
  · rw [if_neg hkk, h.h]
    constructor
    · rintro ⟨j, h1, h2⟩
      refine ⟨j, h1, ?_⟩
      rw [List.getElem?_set_ne (fun e => hkk (by subst e; rw [hk] at h1; injection h1 with h1; exact h1.symm))]
      exact h2
    · rintro ⟨j, h1, h2⟩
      refine ⟨j, h1, ?_⟩
      rw [List.getElem?_set_ne (fun e => hkk (by subst e; rw [hk] at h1; injection h1 with h1; exact h1.symm))] at h2
      exact h2
theorem Kv.del_no (h : Kv m ks vs) (I : MInv H m) (hk : key ∉ ks) : Kv (del H m key) ks vs := by
  rw [del_none (h.fnone I hk)]; exact h
theorem Kv.del_old (h : Kv m ks vs) (I : MInv H m) (hk : ks[i]? = some key) : Kv (del H m key) (ks.eraseIdx i) (vs.eraseIdx i) := by
  obtain ⟨x, hx⟩ := h.fsome I (List.mem_of_getElem? hk)
  obtain ⟨_, b, _, e⟩ := del_some I hx
  have hl := h.len
  have hn := h.n
  have hi := (List.getElem?_eq_some_iff.1 hk).1
  refine ⟨by rw [List.length_eraseIdx_of_lt hi, List.length_eraseIdx_of_lt (by omega)]; omega, by rw [List.length_eraseIdx_of_lt hi]; omega, h.nd.sublist (List.eraseIdx_sublist ..), fun k u => ?_⟩
  rw [e, h.h]
  constructor
  · rintro ⟨hkk, j, h1, h2⟩
    have hji : j ≠ i := fun e => hkk (by subst e; rw [hk] at h1; injection h1 with h1; exact h1.symm)
    rcases Nat.lt_or_gt_of_ne hji with h3 | h3
    · exact ⟨j, by rw [List.getElem?_eraseIdx_of_lt h3]; exact h1, by rw [List.getElem?_eraseIdx_of_lt h3]; exact h2⟩
    · refine ⟨j - 1, ?_, ?_⟩
      · rw [List.getElem?_eraseIdx_of_ge (by omega), show j - 1 + 1 = j by omega]; exact h1
      · rw [List.getElem?_eraseIdx_of_ge (by omega), show j - 1 + 1 = j by omega]; exact h2
  · rintro ⟨j, h1, h2⟩
    rcases Nat.lt_or_ge j i with h3 | h3
    · rw [List.getElem?_eraseIdx_of_lt h3] at h1 h2
      exact ⟨fun e => by subst e; have := nodup_at h.nd hk h1; omega, j, h1, h2⟩
    · rw [List.getElem?_eraseIdx_of_ge h3] at h1 h2
      exact ⟨fun e => by subst e; have := nodup_at h.nd hk h1; omega, j + 1, h1, h2⟩
end
end Go.Proofs.YtcooapflofiolaaDoor

/- Rows of one's own that lie apart: what an append to one leaves of the other. -/
namespace Go.Proofs.YtcooapflofiolaaDoor
open Go Go.RowKit Go.Shelf
set_option linter.unusedVariables false
set_option linter.unusedSimpArgs false
set_option linter.unusedSectionVars false
/-- A row is left as it is by what changes other blocks. -/
theorem own_sep {w w' : World} {base e size n : Nat} {v : Value} {xs : List Value} {S : Nat → Prop} (h : w.ownsRow base e size v n xs) (hk : Kept S w w') (hs : ∀ r, v.ownBlock = some r → ¬ S r) : w'.ownsRow base e size v n xs := by
  refine ⟨h.1, ?_⟩
  rcases h.2 with h0 | ⟨g, cap, cur, h1, h2, h3, h4⟩
  · exact .inl h0
  · exact .inr ⟨g, cap, cur, h1, h2, (hk.block g (Array.getElem?_eq_some_iff.1 h3).1 (hs g (by rw [h1]; rfl))).trans h3, h4⟩
theorem own_grown {w w' : World} {base e size n : Nat} {v : Value} {xs : List Value} {row : Option Nat} (h : w.ownsRow base e size v n xs) (hg : w.grownBy w' row) (hs : ∀ r, v.ownBlock = some r → row ≠ some r) : w'.ownsRow base e size v n xs := by
  refine ⟨h.1, ?_⟩
  rcases h.2 with h0 | ⟨g, cap, cur, h1, h2, h3, h4⟩
  · exact .inl h0
  · exact .inr ⟨g, cap, cur, h1, h2, (hg.block g (Array.getElem?_eq_some_iff.1 h3).1 (fun e => hs g (by rw [h1]; rfl) e.symm)).trans h3, h4⟩
theorem own_lt {w : World} {base e size n : Nat} {v : Value} {xs : List Value} (h : w.ownsRow base e size v n xs) {r : Nat} (hr : v.ownBlock = some r) : base ≤ r ∧ r < w.heap.size := by
  rcases h.2 with ⟨h0, _⟩ | ⟨g, cap, cur, h1, h2, h3, h4⟩
  · rw [h0] at hr; cases hr
  · rw [h1] at hr
    injection hr with hr
    subst hr
    exact ⟨h2, (Array.getElem?_eq_some_iff.1 h3).1⟩
theorem Kept.grown {S : Nat → Prop} {a w w' : World} {row : Option Nat} (h : Kept S a w) (hg : w.grownBy w' row) (hr : ∀ r, row = some r → S r ∨ a.heap.size ≤ r) : Kept S a w' :=
  ⟨hg.os.trans h.os, hg.tape.trans h.tape, hg.output.trans h.output, Nat.le_trans h.size hg.size, fun i hi hn => (hg.block i (Nat.lt_of_lt_of_le hi h.size) (fun e => by
    rcases hr i e.symm with h1 | h1
    · exact hn h1
    · omega)).trans (h.block i hi hn)⟩
/-- An append of a region that draws its order, to a row of one's own: what it leaves of all other blocks, and where the new row lies. -/
theorem step_own_at {P : Program} {ops : Array Oper} {o : Oper} {a : Act} {w : World} {K : Act → World → Prop} {Q : Exit → Act → World → Prop} {E : Prop} (hgd : o.guard = none) (s x : Operand) (t : TypeId)
    (ho : o.op = .call { callee := .builtin .append, args := #[s, x], argTypes := #[t, t] }) (base e : Nat) (z : Value) (size bytes : Nat) (ht : P.underlying t = some (.slice e))
    (hinfo : (P.info? e).map (fun i => (i.zero, i.size, i.bytes)) = some (some z, size, bytes)) (hzs : z.cells.size = size) (hsz : 0 < size)
    (v : Value) (n : Nat) (xs : List Value) (hs : a.eval s = v) (hX : w.ownsRow base e size v n xs) (hb : base ≤ w.heap.size)
    (q : Addr) (m c : Nat) (hx : a.eval x = .slice (some q) m c) (ys : List Value) (hl : ys.length = m * size) (hY : ∀ j u, ys[j]? = some u → w.cell? (q.add j) = some u) (h1 : ∀ u ∈ ys, u.oneCell' = true)
    (h63 : n + m ≤ maxLen) (hbytes : (n + m) * bytes ≤ 140737488355328)
    (h : ∀ v' w', w'.ownsRow base e size v' (n + m) (xs ++ ys) → w.grownBy w' v.ownBlock → (v'.ownBlock = v.ownBlock ∨ v'.ownBlock = some w.heap.size) → K (a.put o.dst v') w') :
    if Region.wanted o (yielded ops a.tmps) = true then Oper.wp P o a w K Q else E := by
  have hw : Region.wanted o (yielded ops a.tmps) = true := by simp [Region.wanted, hgd]
  rw [if_pos hw]
  obtain ⟨i0, hi, hz0, hz1, hz2⟩ := info_parts hinfo
  obtain ⟨v', w', hr, h2, h3, _, h5⟩ := run_append_own_at (P := P) w base t o.type e i0 z size bytes ht hi hz0 hz1 hz2 hzs hsz v n xs hX q m c ys hl hY h1 h63 hbytes hb
  unfold Oper.wp execOp
  simp only [ho, resolve, invoke, builtin, Sem.run_bind, Sem.run_pure, Result.andThen_ok, List.map_toArray, List.map_cons, List.map_nil, hs, hx, hr]
  exact h v' w' h2 h3 h5
/-- Two rows of texts of one's own, apart from one another and from what 'S' holds. -/
structure Two (w : World) (base : Nat) (S : Nat → Prop) (v u : Value) (n : Nat) (xs ys : List Value) : Prop where
  r1 : w.ownsRow base 9 1 v n xs
  r2 : w.ownsRow base 9 1 u n ys
  ne : ∀ r, v.ownBlock = some r → u.ownBlock ≠ some r
  s1 : ∀ r, v.ownBlock = some r → ¬ S r
  s2 : ∀ r, u.ownBlock = some r → ¬ S r
theorem Two.nil (w : World) (base : Nat) (S : Nat → Prop) : Two w base S (.slice none 0 0) (.slice none 0 0) 0 [] [] :=
  ⟨World.ownsRow_nil _ _ _ _, World.ownsRow_nil _ _ _ _, fun r h => (by cases h), fun r h => (by cases h), fun r h => (by cases h)⟩
/-- What acts on a map leave of the two rows. -/
theorem Two.kept {w w' : World} {base n : Nat} {S T : Nat → Prop} {v u : Value} {xs ys : List Value} (h : Two w base S v u n xs ys) (hk : Kept T w w') (hT : ∀ j, T j → S j) (S' : Nat → Prop) (hS : ∀ j, S' j → S j ∨ w.heap.size ≤ j) : Two w' base S' v u n xs ys :=
  ⟨own_sep h.r1 hk (fun r hr e => h.s1 r hr (hT r e)), own_sep h.r2 hk (fun r hr e => h.s2 r hr (hT r e)), h.ne,
   fun r hr e => by
    rcases hS r e with h1 | h1
    · exact h.s1 r hr h1
    · have := (own_lt h.r1 hr).2; omega,
   fun r hr e => by
    rcases hS r e with h1 | h1
    · exact h.s2 r hr h1
    · have := (own_lt h.r2 hr).2; omega⟩
end Go.Proofs.YtcooapflofiolaaDoor

/- Acts on one of two maps, and what they leave of two rows that lie apart from both: what SwissMaps goes through. -/
namespace Go.Proofs.YtcooapflofiolaaDoor
open Go Go.RowKit Go.Shelf
set_option linter.unusedVariables false
set_option linter.unusedSimpArgs false
set_option linter.unusedSectionVars false
set_option maxRecDepth 100000
/-- One step: what is owned may change; what is owned behind it was owned, or is new. -/
structure Stp (w : World) (o : Nat → Prop) (w' : World) (o' : Nat → Prop) : Prop where
  inc : ∀ j, o' j → o j ∨ w.heap.size ≤ j
  k : Kept o w w'
theorem Stp.trans {a b c : World} {o o1 o2 : Nat → Prop} (h : Stp a o b o1) (k : Stp b o1 c o2) : Stp a o c o2 :=
  ⟨fun j hj => (k.inc j hj).elim (h.inc j) (fun h2 => .inr (Nat.le_trans h.k.size h2)),
   h.k.join k.k (fun _ h => h) (fun i hi h1 => (h.inc i h1).resolve_right (by omega))⟩
theorem Two.stp {w w' : World} {base n : Nat} {o o' : Nat → Prop} {v u : Value} {xs ys : List Value} (h : Two w base o v u n xs ys) (k : Stp w o w' o') : Two w' base o' v u n xs ys := h.kept k.k (fun _ h => h) _ k.inc
theorem Stp.low {w w' : World} {o o' : Nat → Prop} {lo : Nat} (k : Stp w o w' o') (hl : lo ≤ w.heap.size) (ho : ∀ j, o j → lo ≤ j) : Below lo w w' := k.k.below hl (fun j _ h => ho j h)
theorem Stp.cell {w w' : World} {o o' : Nat → Prop} (k : Stp w o w' o') {p : Addr} {v : Value} (h : w.cell? p = some v) (hs : ¬ o p.block) : w'.cell? p = some v := kept_cell k.k h hs
namespace MS
def two (px py : Pl) : Nat → Prop := fun j => px.own j ∨ py.own j
section
variable {lo : Nat} {w w' : World} {px py : Pl} {k0 k1 l0 l1 : BitVec 64} {mx my : Mp VT}
theorem Both.lt (h : Both lo w px k0 k1 mx py l0 l1 my) : ∀ j, two px py j → j < w.heap.size := fun j hj => hj.elim (fun h1 => h.1.at_.lt h1) (fun h1 => h.2.1.at_.lt h1)
theorem Both.ge (h : Both lo w px k0 k1 mx py l0 l1 my) : ∀ j, two px py j → lo ≤ j := fun j hj => hj.elim (h.1.own j) (h.2.1.own j)
theorem Both.low (h : Both lo w px k0 k1 mx py l0 l1 my) {o' : Nat → Prop} (k : Stp w (two px py) w' o') : Below lo w w' := k.low h.1.le h.ge
theorem delX (h : Both lo w px k0 k1 mx py l0 l1 my) (key : ByteArray) (hkey : key.size ≤ maxLen) :
    Calls Tryd.prog 16 #[.pointer (some ⟨px.b, 0, none⟩), .string key] w fun e w' => e = .returned (.bool (find (hashN k0 k1) mx key).isSome) ∧ ∃ q : Pl, q.b = px.b ∧ Both lo w' q k0 k1 (del (hashN k0 k1) mx key) py l0 l1 my ∧ Stp w (two px py) w' (two q py) :=
  (delete_live h.1 key hkey).mono fun e w' ⟨h1, h2⟩ => by
    obtain ⟨q, h3, h4, h5, h6⟩ := h.actX h2
    exact ⟨h1, q, h3, h4, h5, h6.weaken fun _ => .inl⟩
theorem delY (h : Both lo w px k0 k1 mx py l0 l1 my) (key : ByteArray) (hkey : key.size ≤ maxLen) :
    Calls Tryd.prog 16 #[.pointer (some ⟨py.b, 0, none⟩), .string key] w fun e w' => e = .returned (.bool (find (hashN l0 l1) my key).isSome) ∧ ∃ q : Pl, q.b = py.b ∧ Both lo w' px k0 k1 mx q l0 l1 (del (hashN l0 l1) my key) ∧ Stp w (two px py) w' (two px q) :=
  (delete_live h.2.1 key hkey).mono fun e w' ⟨h1, h2⟩ => by
    obtain ⟨q, h3, h4, h5, h6⟩ := h.actY h2
    exact ⟨h1, q, h3, h4, h5, h6.weaken fun _ => .inr⟩
theorem putX (h : Both lo w px k0 k1 mx py l0 l1 my) (key : ByteArray) (u : VT) (hkey : key.size ≤ maxLen) :
    Calls Tryd.prog 17 #[.pointer (some ⟨px.b, 0, none⟩), .string key, val u] w fun e w' => e = .returned (.tuple #[.bool (putB (hashN k0 k1) mx key), .int .i64 (putE (hashN k0 k1) mx key)]) ∧ ∃ q : Pl, q.b = px.b ∧ Both lo w' q k0 k1 (put (hashN k0 k1) mx key u) py l0 l1 my ∧ Stp w (two px py) w' (two q py) :=
  (put_live h.1 key u hkey).mono fun e w' ⟨h1, h2⟩ => by
    obtain ⟨q, h3, h4, h5, h6⟩ := h.actX h2
    exact ⟨h1, q, h3, h4, h5, h6.weaken fun _ => .inl⟩
theorem putY (h : Both lo w px k0 k1 mx py l0 l1 my) (key : ByteArray) (u : VT) (hkey : key.size ≤ maxLen) :
    Calls Tryd.prog 17 #[.pointer (some ⟨py.b, 0, none⟩), .string key, val u] w fun e w' => e = .returned (.tuple #[.bool (putB (hashN l0 l1) my key), .int .i64 (putE (hashN l0 l1) my key)]) ∧ ∃ q : Pl, q.b = py.b ∧ Both lo w' px k0 k1 mx q l0 l1 (put (hashN l0 l1) my key u) ∧ Stp w (two px py) w' (two px q) :=
  (put_live h.2.1 key u hkey).mono fun e w' ⟨h1, h2⟩ => by
    obtain ⟨q, h3, h4, h5, h6⟩ := h.actY h2
    exact ⟨h1, q, h3, h4, h5, h6.weaken fun _ => .inr⟩
theorem Both.kept (h : Both lo w px k0 k1 mx py l0 l1 my) {S : Nat → Prop} (hk : Kept S w w') (hs : ∀ j, two px py j → ¬ S j) (h0 : ¬ S 0) : Both lo w' px k0 k1 mx py l0 l1 my :=
  ⟨h.1.kept hk (fun j hj => hs j (.inl hj)) h0, h.2.1.kept hk (fun j hj => hs j (.inr hj)) h0, h.2.2⟩
theorem getV_has {H : ByteArray → Nat} {m : Mp VT} (I : MInv H m) {k v : ByteArray} (h : Has m k v) : getV H m k = (v, true) := by
  unfold getV
  cases hf : find H m k with
  | none => exact absurd hf ((find_has I).1 ⟨v, h⟩)
  | some x => rw [(find_val I hf).1 h]
end
end MS
section
variable {H : ByteArray → Nat} {m : Mp ByteArray} {ks vs : List ByteArray} {key v : ByteArray} {i : Nat}
theorem Kv.isS (h : Kv m ks vs) (I : MInv H m) (hk : ks[i]? = some key) : (find H m key).isSome = true := (h.mem I).2 (List.mem_of_getElem? hk)
theorem Kv.notS (h : Kv m ks vs) (I : MInv H m) (hk : key ∉ ks) : (find H m key).isSome = false := by rw [h.fnone I hk]; rfl
theorem Kv.putEq (h : Kv m ks vs) (hn : ks.length < 2000) : putE H m key = 0 := by
  unfold putE
  exact if_neg (fun h1 => by have := h.n; omega)
end
/-- Two rows of texts of different lengths, apart from one another and from what 'S' holds. -/
structure Two2 (w : World) (base : Nat) (S : Nat → Prop) (v : Value) (n : Nat) (u : Value) (m : Nat) (xs ys : List Value) : Prop where
  r1 : w.ownsRow base 9 1 v n xs
  r2 : w.ownsRow base 9 1 u m ys
  ne : ∀ r, v.ownBlock = some r → u.ownBlock ≠ some r
  s1 : ∀ r, v.ownBlock = some r → ¬ S r
  s2 : ∀ r, u.ownBlock = some r → ¬ S r
section
variable {w w' : World} {base n m : Nat} {S : Nat → Prop} {v u v' : Value} {xs ys zs : List Value}
theorem Two.of (h : Two w base S v u n xs ys) : Two2 w base S v n u n xs ys := ⟨h.1, h.2, h.3, h.4, h.5⟩
theorem Two2.to (h : Two2 w base S v n u n xs ys) : Two w base S v u n xs ys := ⟨h.1, h.2, h.3, h.4, h.5⟩
theorem Two2.drew (h : Two2 w base S v n u m xs ys) : Two2 w.drew base S v n u m xs ys := ⟨h.r1.drew, h.r2.drew, h.3, h.4, h.5⟩
theorem Two2.alloc (h : Two2 w base S v n u m xs ys) (o : Obj) : Two2 (w.alloc o) base S v n u m xs ys := ⟨h.r1.alloc o, h.r2.alloc o, h.3, h.4, h.5⟩
theorem Two2.lt1 (h : Two2 w base S v n u m xs ys) : ∀ r, v.ownBlock = some r → r < w.heap.size := fun r hr => (own_lt h.r1 hr).2
theorem Two2.lt2 (h : Two2 w base S v n u m xs ys) : ∀ r, u.ownBlock = some r → r < w.heap.size := fun r hr => (own_lt h.r2 hr).2
theorem Two2.step1 (h : Two2 w base S v n u m xs ys) {k : Nat} (h2 : w'.ownsRow base 9 1 v' k zs) (hg : w.grownBy w' v.ownBlock) (hv : v'.ownBlock = v.ownBlock ∨ v'.ownBlock = some w.heap.size) (hS : ∀ j, S j → j < w.heap.size) : Two2 w' base S v' k u m zs ys := by
  refine ⟨h2, own_grown h.r2 hg (fun r hr e => h.ne r e hr), fun r hr e => ?_, fun r hr e => ?_, h.s2⟩
  · rcases hv with h1 | h1
    · exact h.ne r (h1 ▸ hr) e
    · rw [h1] at hr; injection hr with hr; have := h.lt2 r e; omega
  · rcases hv with h1 | h1
    · exact h.s1 r (h1 ▸ hr) e
    · rw [h1] at hr; injection hr with hr; have := hS r e; omega
theorem Two2.step2 (h : Two2 w base S v n u m xs ys) {k : Nat} (h2 : w'.ownsRow base 9 1 v' k zs) (hg : w.grownBy w' u.ownBlock) (hv : v'.ownBlock = u.ownBlock ∨ v'.ownBlock = some w.heap.size) (hS : ∀ j, S j → j < w.heap.size) : Two2 w' base S v n v' k xs zs := by
  refine ⟨own_grown h.r1 hg (fun r hr e => h.ne r hr e), h2, fun r hr e => ?_, h.s1, fun r hr e => ?_⟩
  · rcases hv with h1 | h1
    · exact h.ne r hr (h1 ▸ e)
    · rw [h1] at e; injection e with e; have := h.lt1 r hr; omega
  · rcases hv with h1 | h1
    · exact h.s2 r (h1 ▸ hr) e
    · rw [h1] at hr; injection hr with hr; have := hS r e; omega
end
theorem grown_new {w w' : World} {row : Option Nat} {k : Nat} {p : Addr} {v : Value} (hg : w.grownBy w' row) (hlt : ∀ r, row = some r → r < k) (h : w.cell? p = some v) (hp : k ≤ p.block) : w'.cell? p = some v :=
  (World.cell?_of_block (w := w) (hg.block p.block (cell_lt h) (fun e => by have := hlt _ e.symm; omega))).trans h
theorem grown_old {w w' : World} {row : Option Nat} {p : Addr} {v : Value} (hg : w.grownBy w' row) (hlt : ∀ r, row = some r → r ≠ p.block) (h : w.cell? p = some v) : w'.cell? p = some v :=
  (World.cell?_of_block (w := w) (hg.block p.block (cell_lt h) (fun e => hlt _ e.symm rfl))).trans h
theorem one_at {w : World} {g : Nat} {t : Value} (h : w.cell? ⟨g, 0, none⟩ = some t) : ∀ j u, [t][j]? = some u → w.cell? ((⟨g, 0, none⟩ : Addr).add j) = some u := by
  intro j u hj
  match j, hj with
  | 0, hj => simp at hj; subst hj; rw [Addr.add_lit]; exact h
  | j + 1, hj => simp at hj
section
variable {ops : Array Oper} {o : Oper} {a : Act} {w : World} {K : Act → World → Prop} {Q : Exit → Act → World → Prop} {E : Prop} {base n m : Nat} {S : Nat → Prop} {v u : Value} {xs ys : List Value}
theorem info9 : (Tryd.prog.info? 9).map (fun i => (i.zero, i.size, i.bytes)) = some (some (.string ByteArray.empty), 1, 16) := by kernel_rfl
/-- An append of one text to the first of two rows. -/
theorem step_row1 (hgd : o.guard = none) (s x : Operand) (ho : o.op = .call { callee := .builtin .append, args := #[s, x], argTypes := #[30, 30] }) (T : Two2 w base S v n u m xs ys) (hs : a.eval s = v)
    (g : Nat) (t : ByteArray) (hx : a.eval x = .slice (some ⟨g, 0, none⟩) 1 1) (hc : w.cell? ⟨g, 0, none⟩ = some (.string t)) (hb : base ≤ w.heap.size) (hS : ∀ j, S j → j < w.heap.size) (hn : n ≤ 100000)
    (h : ∀ v' w', Two2 w' base S v' (n + 1) u m (xs ++ [.string t]) ys → w.grownBy w' v.ownBlock → K (a.put o.dst v') w') :
    if Region.wanted o (yielded ops a.tmps) = true then Oper.wp Tryd.prog o a w K Q else E :=
  step_own_at hgd s x 30 ho base 9 _ 1 16 Tryd.underlying30 info9 rfl (by decide) v n xs hs T.r1 hb ⟨g, 0, none⟩ 1 1 hx [.string t] rfl (one_at hc) (by simp [Value.oneCell']) (by simp only [maxLen]; omega) (by omega)
    (fun v' w' h1 h2 h3 => h v' w' (T.step1 h1 h2 h3 hS) h2)
theorem step_row2 (hgd : o.guard = none) (s x : Operand) (ho : o.op = .call { callee := .builtin .append, args := #[s, x], argTypes := #[30, 30] }) (T : Two2 w base S v n u m xs ys) (hs : a.eval s = u)
    (g : Nat) (t : ByteArray) (hx : a.eval x = .slice (some ⟨g, 0, none⟩) 1 1) (hc : w.cell? ⟨g, 0, none⟩ = some (.string t)) (hb : base ≤ w.heap.size) (hS : ∀ j, S j → j < w.heap.size) (hn : m ≤ 100000)
    (h : ∀ v' w', Two2 w' base S v n v' (m + 1) xs (ys ++ [.string t]) → w.grownBy w' u.ownBlock → K (a.put o.dst v') w') :
    if Region.wanted o (yielded ops a.tmps) = true then Oper.wp Tryd.prog o a w K Q else E :=
  step_own_at hgd s x 30 ho base 9 _ 1 16 Tryd.underlying30 info9 rfl (by decide) u m ys hs T.r2 hb ⟨g, 0, none⟩ 1 1 hx [.string t] rfl (one_at hc) (by simp [Value.oneCell']) (by simp only [maxLen]; omega) (by omega)
    (fun v' w' h1 h2 h3 => h v' w' (T.step2 h1 h2 h3 hS) h2)
/-- An append of a row that is read to a row of one's own. -/
theorem step_cat (hgd : o.guard = none) (s x : Operand) (ho : o.op = .call { callee := .builtin .append, args := #[s, x], argTypes := #[30, 30] }) (R : w.ownsRow base 9 1 v n xs) (hs : a.eval s = v)
    (q : Addr) (c : Nat) (ys : List Value) (hx : a.eval x = .slice (some q) m c) (hl : ys.length = m) (hY : ∀ j u, ys[j]? = some u → w.cell? (q.add j) = some u) (h1 : ∀ u ∈ ys, u.oneCell' = true) (hb : base ≤ w.heap.size) (hn : n + m ≤ 100000)
    (h : ∀ v' w', w'.ownsRow base 9 1 v' (n + m) (xs ++ ys) → w.grownBy w' v.ownBlock → K (a.put o.dst v') w') :
    if Region.wanted o (yielded ops a.tmps) = true then Oper.wp Tryd.prog o a w K Q else E :=
  step_own_at hgd s x 30 ho base 9 _ 1 16 Tryd.underlying30 info9 rfl (by decide) v n xs hs R hb q m c hx ys (by omega) hY h1 (by simp only [maxLen]; omega) (by omega)
    (fun v' w' h1 h2 _ => h v' w' h1 h2)
end
theorem size30 (W : World) : (sizeOf (Tryd.prog.elem 30)).run Tryd.prog W = .ok 1 W := by
  obtain ⟨i0, hi, hz0, hz1, hz2⟩ := info_parts info9
  have he : Tryd.prog.elem 30 = 9 := by kernel_rfl
  rw [he]
  simp [sizeOf, typeInfo, hi, hz1]
theorem cut_low (g n c t : Nat) (h : t ≤ c) (W : World) : (Instr.slice 30 (.slice (some ⟨g, 0, none⟩) n c) none (some (.int .i64 (t : Nat))) none).run Tryd.prog W = .ok (.slice (some ⟨g, 0, none⟩) t c) W := by
  rw [run_slice_h W 30 _ n c Tryd.underlying30 _ _ (by omega) (by omega), size30]
  simp only [Result.andThen_ok, sliced]
  by_cases hc : c = 0
  · subst hc; simp
  · simp [Addr.add]
theorem cut_from (g n c t : Nat) (h : t < n) (hc : n ≤ c) : ∃ q c2, (∀ W, (Instr.slice 30 (.slice (some ⟨g, 0, none⟩) n c) (some (.int .i64 ((t : Int) + 1))) none none).run Tryd.prog W = .ok (.slice (some q) (n - (t + 1)) c2) W) ∧ q.block = g ∧
    ∀ (w : World) (xs : List Value), xs.length = n → (∀ j x, xs[j]? = some x → w.cell? ⟨g, j, none⟩ = some x) → ∀ j u, (xs.drop (t + 1))[j]? = some u → w.cell? (q.add j) = some u := by
  refine ⟨if c = t + 1 then ⟨g, 0, none⟩ else ⟨g, t + 1, none⟩, c - (t + 1), fun W => ?_, by split <;> rfl, fun w xs hx hw j u hj => ?_⟩
  · rw [run_slice_l W 30 _ n c Tryd.underlying30 _ _ (by omega) (by omega), size30]
    simp only [Result.andThen_ok, sliced]
    rw [show ((t : Int) + 1).toNat = t + 1 by omega]
    split <;> simp [Addr.add]
  · rw [List.getElem?_drop] at hj
    have := (List.getElem?_eq_some_iff.1 hj).1
    rw [if_neg (by omega), Addr.add_lit]
    exact hw _ _ hj
theorem own_empty {w : World} {base g : Nat} (h : w.heap[g]? = some (.cells #[] 9 (0, 0))) (hb : base ≤ g) : w.ownsRow base 9 1 (.slice (some ⟨g, 0, none⟩) 0 0) 0 [] :=
  ⟨rfl, .inr ⟨g, 0, #[], rfl, hb, h, Nat.le_refl _, by simp only [maxLen]; omega, rfl, rfl⟩⟩
theorem textsV_one (l : List ByteArray) : ∀ u ∈ textsV l, u.oneCell' = true := by
  intro u hu
  simp only [textsV, List.mem_map] at hu
  obtain ⟨x, _, rfl⟩ := hu
  rfl
theorem textsV_erase (l : List ByteArray) (t : Nat) : (textsV l).take t ++ (textsV l).drop (t + 1) = textsV (l.eraseIdx t) := by
  simp [textsV, List.eraseIdx_eq_take_drop_succ]
theorem two_new {wm w7 w9 : World} {base n : Nat} {S : Nat → Prop} {v u : Value} {xs ys : List Value} (r1 : w7.ownsRow wm.heap.size 9 1 v n xs) (r2 : w9.ownsRow w7.heap.size 9 1 u n ys) (hb : Below w7.heap.size w7 w9) (h7 : wm.heap.size ≤ w7.heap.size) (hbase : base ≤ wm.heap.size) (hS : ∀ j, S j → j < wm.heap.size) : Two w9 base S v u n xs ys :=
  ⟨own_weak (own_below r1 (Nat.le_refl _) hb) hbase, own_weak r2 (by omega), fun r h1 h2 => by have := (own_lt r1 h1).2; have := (own_lt r2 h2).1; omega,
   fun r h1 h2 => by have := (own_lt r1 h1).1; have := hS r h2; omega, fun r h1 h2 => by have := (own_lt r2 h1).1; have := hS r h2; omega⟩
/-- A store into the second of two rows. -/
theorem Two.set2 {w : World} {base n c : Nat} {o : Nat → Prop} {v : Value} {xs ys : List Value} {g : Nat} (h : Two w base o v (.slice (some ⟨g, 0, none⟩) n c) n xs ys) (t : Nat) (ht : t < n) (u : Value) :
    Two (w.setCell ⟨g, t, none⟩ u) base o v (.slice (some ⟨g, 0, none⟩) n c) n xs (ys.set t u) := by
  have hk : Kept (fun j => j = g) w (w.setCell ⟨g, t, none⟩ u) := (Kept.refl (fun j => j = g) w).setCell (p := ⟨g, t, none⟩) (.inl rfl) u
  exact ⟨own_sep h.r1 hk (fun r hr e => h.ne r hr (by subst e; rfl)), (h.r2.stored t u).1, h.ne, h.s1, h.s2⟩
end Go.Proofs.YtcooapflofiolaaDoor

/- The law 'SwissMaps' answers true at every input, and leaves its arguments as they were; the listed table starts as the program's text lays it (the given tie). (The frame was written by a program, after the kit's own frames.) -/
namespace Go.Proofs.YtcooapflofiolaaDoor.swissMaps
open Go.ChangeShapes Go.WideShapes Go.ChangeAt Go.RowKit Go.Shelf Go.Proofs.YtcooapflofiolaaDoor
open Go.ChangeMaps (open_string shut_string)
set_option linter.unusedVariables false
set_option linter.unusedSimpArgs false
set_option maxRecDepth 100000

theorem laidOut : laidOutB Tryd.prog = true := by kernel_rfl

set_option maxHeartbeats 8000000 in
theorem walk (w : World) (hS : Sh w) (a0 b0 : BitVec 64) (a1 b1 : BitVec 64) (s2 : Option Addr) (n2 c2 : Nat) (xs2 : List Ac) (ar2 : AR w s2 n2 xs2) :
    Calls Tryd.prog 3 #[.agg #[.int .u64 (Sip.U a0), .int .u64 (Sip.U b0)], .agg #[.int .u64 (Sip.U a1), .int .u64 (Sip.U b1)], .slice s2 n2 c2] w fun e w' => e = .returned (.bool true) ∧ Below w.heap.size w w' := by
  have HAR := Lib.hid ar2
  have HSh := Lib.hid hS
  obtain ⟨w1, hw1⟩ : ∃ w1, w1 = (w.alloc (.cells #[.int .u64 (Sip.U a0), .int .u64 (Sip.U b0)] 24)).alloc (.cells #[.int .u64 (Sip.U a1), .int .u64 (Sip.U b1)] 24) := ⟨_, rfl⟩
  have B1 : Hid (Below w.heap.size w w1) := by rw [hw1]; exact ((Below.refl _ w).alloc (Nat.le_refl _) _).alloc (by simp) _
  have S1 : Hid (Sh w1) := HSh.out.below B1.out
  have SK : Hid (∀ W, Below w1.heap.size w1 W → W.cell? ⟨w.heap.size, 0, none⟩ = some (.int .u64 (Sip.U a0)) ∧ W.cell? ⟨w.heap.size, 1, none⟩ = some (.int .u64 (Sip.U b0)) ∧ W.cell? ⟨w.heap.size + 1, 0, none⟩ = some (.int .u64 (Sip.U a1)) ∧ W.cell? ⟨w.heap.size + 1, 1, none⟩ = some (.int .u64 (Sip.U b1))) := by
    show ∀ W, _
    intro W hW
    exact ⟨low_cell hW (Nat.le_refl _) (by rw [hw1]; simp), low_cell hW (Nat.le_refl _) (by rw [hw1]; simp), low_cell hW (Nat.le_refl _) (by rw [hw1]; simp), low_cell hW (Nat.le_refl _) (by rw [hw1]; simp)⟩
  have HX := Lib.hid (fun W hW => MS.new_from a0 b0 0 1 rfl (by omega) w1 S1.out W hW)
  have HY := Lib.hid (fun W hW => MS.new_from a1 b1 100 16 rfl (by omega) w1 S1.out W hW)
  have HW1 := Lib.hid hw1
  clear hw1 hS ar2
  go_enter Tryd.func3, Tryd.ntmps3
  go_upto_region 1 with fail
  rw [← HW1.out]
  go_cut [7, 8] (fun x y wx => ∃ px py : Pl, x = .pointer (some ⟨px.b, 0, none⟩) ∧ y = .pointer (some ⟨py.b, 0, none⟩) ∧ MS.Both w1.heap.size wx px a0 b0 (empty 1) py a1 b1 (empty 16) ∧ Below w1.heap.size w1 wx)
  case first =>
    have Lx : Hid (Below w1.heap.size w1 w1.drew) := (Below.refl _ _).drew
    go_region_held3 (fun W => W.cell? ⟨w.heap.size, 0, none⟩ = some (.int .u64 (Sip.U a0)) ∧ W.cell? ⟨w.heap.size, 1, none⟩ = some (.int .u64 (Sip.U b0)) ∧ W.cell? ⟨w.heap.size + 1, 0, none⟩ = some (.int .u64 (Sip.U a1)) ∧ W.cell? ⟨w.heap.size + 1, 1, none⟩ = some (.int .u64 (Sip.U b1)))
      (first | (refine SK.out _ ?_; repeat (first | exact Below.refl _ _ | exact HBX.out | exact HBY.out | refine Below.drew ?_)))
      (first
        | (go_at_call 13; (with_reducible refine (HX.out _ ?_).mono ?_); (first | exact Below.refl _ _ | exact Lx.out | exact HBY.out | exact HBY.out.drew); rintro e wa ⟨px, rfl, nx⟩; have HBX : Hid (Below w1.heap.size w1 wa) := (by first | exact Lx.out.trans nx.2.2 | exact HBY.out.trans (nx.2.2.mono HBY.out.size) | exact HBY.out.drew.trans (nx.2.2.mono HBY.out.size)); have NX := Lib.hid nx; clear nx)
        | (go_at_call 13; (with_reducible refine (HY.out _ ?_).mono ?_); (first | exact Below.refl _ _ | exact Lx.out | exact HBX.out | exact HBX.out.drew); rintro e wb ⟨py, rfl, ny⟩; have HBY : Hid (Below w1.heap.size w1 wb) := (by first | exact Lx.out.trans ny.2.2 | exact HBX.out.trans (ny.2.2.mono HBX.out.size) | exact HBX.out.drew.trans (ny.2.2.mono HBX.out.size)); have NY := Lib.hid ny; clear ny))
    all_goals (go_wp2_with fail; go_meet; first
      | exact ⟨px, py, rfl, rfl, MS.both_xy NX.out NY.out (Below.refl _ _), HBY.out⟩
      | exact ⟨px, py, rfl, rfl, MS.both_xy NX.out NY.out (Below.refl _ _).drew, HBY.out⟩
      | exact ⟨px, py, rfl, rfl, MS.both_yx NY.out NX.out (Below.refl _ _), HBX.out⟩
      | exact ⟨px, py, rfl, rfl, MS.both_yx NY.out NX.out (Below.refl _ _).drew, HBX.out⟩)
  case rest =>
    obtain ⟨px, py, rfl, rfl, hbo, hb1⟩ := hcut
    have HBO := Lib.hid hbo
    have B2 : Hid (Below w.heap.size w wc) := B1.out.trans (hb1.mono B1.out.size)
    have HLV : Hid (∀ W, Below w.heap.size w W → Calls Tryd.prog 15 #[] W fun e w' => e = .returned (.bool true) ∧ Below w.heap.size w w') := by
      show ∀ W, _
      intro W hW
      exact (MI.lives_any W (HSh.out.below hW)).mono fun e w' ⟨h1, h2⟩ => ⟨h1, hW.trans (h2.mono hW.size)⟩
    clear hbo hb1
    have HFE := Lib.hid (few_any s2 n2 c2 xs2 wc (HAR.out.below (Nat.le_refl _) B2.out))
    go_wp2_with fail
    refine HFE.out.mono ?_
    rintro e w3 ⟨b, rfl, hb3, hfew⟩
    have B3 : Hid (Below w.heap.size w w3) := B2.out.trans (hb3.mono B2.out.size)
    have LX3 := Lib.hid (HBO.out.1.below (Nat.le_refl _) hb3)
    have LY3 := Lib.hid (HBO.out.2.1.below (Nat.le_refl _) hb3)
    have HFew := Lib.hid hfew
    clear hb3 hfew
    cases b
    · go_wp2_with fail
      refine (HLV.out _ B3.out).mono ?_
      rintro e w4 ⟨rfl, hb⟩
      go_wp2
      go_ret
      exact ⟨rfl, hb⟩
    have HF : Hid (Few xs2 n2) := HFew.out (by simp)
    have hn600 : n2 ≤ 600 := HF.out.1
    go_wp2
    go_loopw [9, 10, 52] (fun vK vV i wr => ∃ (k : Nat) (qx qy : Pl) (mx my : Mp ByteArray) (ks vs : List ByteArray), k ≤ n2 ∧ i = .int .i64 k ∧ qx.b = px.b ∧ qy.b = py.b ∧ MS.Both w1.heap.size wr qx a0 b0 mx qy a1 b1 my ∧ Kv mx ks vs ∧ Kv my ks vs ∧ ks.length ≤ k ∧ Two wr w1.heap.size (fun j => qx.own j ∨ qy.own j) vK vV ks.length (textsV ks) (textsV vs) ∧ Below w.heap.size w wr) (fun _ _ i _ => n2 - (intOf i).toNat)
    case atStart => exact ⟨0, px, py, _, _, [], [], by omega, rfl, rfl, rfl, ⟨LX3.out, LY3.out, HBO.out.2.2⟩, Kv.zero _, Kv.zero _, Nat.le_refl _, Two.nil _ _ _, B3.out⟩
    case round =>
      obtain ⟨k, qx, qy, mx, my, ks, vs, hk, rfl, hqx, hqy, hbo, hkx, hky, hkl, htw, hB⟩ := hrel
      have HBr := Lib.hid hbo
      have HKX := Lib.hid hkx
      have HKY := Lib.hid hky
      have HTW := Lib.hid htw
      have HB := Lib.hid hB
      have HQX := Lib.hid hqx
      have HQY := Lib.hid hqy
      obtain ⟨ka, kc, hvk, hkc⟩ := own_val htw.r1
      subst hvk
      obtain ⟨va, vc, hvv, hvc⟩ := own_val htw.r2
      subst hvv
      obtain ⟨l, hl⟩ : ∃ l, l = ks.length := ⟨_, rfl⟩
      rw [← hl] at HTW hkl hkc hvc ⊢
      have HLL := Lib.hid hl
      clear hbo hkx hky htw hB hqx hqy hl
      by_cases hlt : k < n2
      · have hd2 : decide ((k : Int) < (n2 : Int)) = true := decide_eq_true (by omega)
        have hkn : (k : Int) < (n2 : Int) := by omega
        obtain ⟨b, off, rfl, x0, x1, x2⟩ := (HAR.out.below (Nat.le_refl _) HB.out).act hlt
        obtain ⟨x, hx⟩ : ∃ x, x = xs2.getD k default := ⟨_, rfl⟩
        have hxk : x.key.size ≤ maxLen := by
          have h1 := (HF.out.2 k hlt).1
          rw [← hx] at h1
          exact Nat.le_trans (Nat.le_of_lt h1) (by decide : 40000 ≤ maxLen)
        rw [← hx] at x0 x1 x2
        have HXK := Lib.hid hxk
        clear hx hxk
        obtain ⟨wA, hwA⟩ : ∃ wA, wA = wr.alloc (.cells #[.int .i64 x.k, .string x.key, .string x.val] 32) := ⟨_, rfl⟩
        have BA : Hid (Below wr.heap.size wr wA) := by rw [hwA]; exact (Below.refl _ wr).alloc (Nat.le_refl _) _
        have BB : Hid (Below w.heap.size w wA) := HB.out.trans (BA.out.mono HB.out.size)
        have LXA := Lib.hid (HBr.out.1.below (Nat.le_refl _) BA.out)
        have LYA := Lib.hid (HBr.out.2.1.below (Nat.le_refl _) BA.out)
        have TA : Hid (Two wA w1.heap.size (fun j => qx.own j ∨ qy.own j) (.slice ka l kc) (.slice va l vc) l (textsV ks) (textsV vs)) := HTW.out.kept (Kept.of (S := fun _ => False) BA.out (Nat.le_refl _)) (fun _ h => h.elim) _ (fun _ h => .inl h)
        have y0 : wA.cell? ⟨wr.heap.size, 0, none⟩ = some (.int .i64 x.k) := by rw [hwA]; simp
        have y1 : wA.cell? ⟨wr.heap.size, 1, none⟩ = some (.string x.key) := by rw [hwA]; simp
        have y2 : wA.cell? ⟨wr.heap.size, 2, none⟩ = some (.string x.val) := by rw [hwA]; simp
        have HWA := Lib.hid hwA
        clear hwA
        go_upto_region 8 with fail
        rw [← HWA.out]
        clear x0 x1 x2
        obtain ⟨X, hX⟩ : ∃ X, X = wr.heap.size := ⟨_, rfl⟩
        rw [← hX] at y0 y1 y2 ⊢
        have HXX := Lib.hid hX
        clear hX
        go_wp2
        go_loopw [13, 58] (fun a i wr => ∃ j : Nat, j ≤ l ∧ i = .int .i64 j ∧ ((a = .int .i64 (-1) ∧ ∀ t, t < j → ks[t]? ≠ some x.key) ∨ ∃ t : Nat, t < j ∧ a = .int .i64 t ∧ ks[t]? = some x.key) ∧ wr = wA) (fun a i _ => l - (intOf i).toNat)
        case atStart => exact ⟨0, by omega, rfl, .inl ⟨rfl, fun t ht => by omega⟩, rfl⟩
        case round =>
          obtain ⟨j, hj, rfl, ha, hww⟩ := hrel
          obtain ⟨w6, hw6⟩ : ∃ w6, w6 = wr := ⟨_, rfl⟩
          rw [← hw6] at hww ⊢
          have HWW := Lib.hid hww
          have HAT := Lib.hid ha
          clear hww hw6 ha
          by_cases hlt2 : j < l
          ·
            have hd3 : decide ((j : Int) < (l : Int)) = true := decide_eq_true (by omega)
            have hkn2 : (j : Int) < (l : Int) := by omega
            obtain ⟨gg, cap, hv, _, hgb1, hgb2, hcells⟩ := own_read TA.out.r1 (by omega)
            injection hv with hva _ hvc'
            subst hva
            obtain ⟨s, hs⟩ : ∃ s, ks[j]? = some s := ⟨_, List.getElem?_eq_getElem (by rw [← HLL.out]; exact hlt2)⟩
            have s0 := hcells j (.string s) (by simp [textsV, hs])
            rw [← HWW.out] at s0
            have y1' : w6.cell? ⟨X, 1, none⟩ = some (.string x.key) := by rw [HWW.out]; exact y1
            have HS := Lib.hid hs
            clear hcells hs hvc'
            by_cases hkk : s = x.key
            · have hb2 : (s.toList == x.key.toList) = true := by rw [beq_toList]; exact decide_eq_true hkk
              have HKK := Lib.hid hkk
              clear hkk
              go_wp2_with fail
              go_roundw
              case rel => exact ⟨j + 1, by omega, by go_num, .inr ⟨j, by omega, rfl, by rw [HS.out, HKK.out]⟩, HWW.out⟩
              case measure => simp [intOf]; omega
            · have hb2 : (s.toList == x.key.toList) = false := by rw [beq_toList]; exact decide_eq_false hkk
              have HKK := Lib.hid hkk
              clear hkk
              go_wp2_with fail
              go_roundw
              case rel =>
                refine ⟨j + 1, by omega, by go_num, ?_, HWW.out⟩
                rcases HAT.out with ⟨h1, h2⟩ | ⟨t, h1, h2, h3⟩
                · refine .inl ⟨h1, fun t ht => ?_⟩
                  rcases Nat.lt_succ_iff_lt_or_eq.1 ht with h3 | rfl
                  · exact h2 t h3
                  · rw [HS.out]; exact fun e => HKK.out (by injection e)
                · exact .inr ⟨t, by omega, h2, h3⟩
              case measure => simp [intOf]; omega
          · obtain rfl : j = l := by omega
            have hd3 : decide ((j : Int) < (j : Int)) = false := decide_eq_false (by omega)
            obtain rfl : wA = w6 := HWW.out.symm
            clear HWW
            have BTA : Hid (MS.Both w1.heap.size wA qx a0 b0 mx qy a1 b1 my) := HBr.out.below (Nat.le_refl _) BA.out
            have HOX : Hid (∀ t, MS.two qx qy t → t < X) := fun t h => by have := HBr.out.lt t h; have := HXX.out; omega
            have HLO : Hid (w.heap.size ≤ w1.heap.size) := B1.out.size
            have hIX := Lib.hid HBr.out.1.inv
            have hIY := Lib.hid HBr.out.2.1.inv
            rcases HAT.out with ⟨rfl, hno⟩ | ⟨t, htj, rfl, hkt⟩
            · have HNO : Hid (x.key ∉ ks) := fun h => by
                obtain ⟨i, hi, e⟩ := List.getElem_of_mem h
                exact hno i (by rw [HLL.out]; exact hi) (by rw [List.getElem?_eq_getElem hi, e])
              clear HAT hno
              by_cases hk1 : x.k = 1
              ·
                rw [hk1] at y0
                clear hk1
                have hdx := MS.delX BTA.out x.key HXK.out
                rw [HKX.out.notS hIX.out HNO.out, HQX.out] at hdx
                have HDX := Lib.hid hdx
                clear hdx
                go_wp2_with fail
                refine HDX.out.mono ?_
                rintro e w4 ⟨rfl, q4, hq4, hb4, hs4⟩
                have BT4 := Lib.hid hb4
                have S4 := Lib.hid hs4
                have HQ4 := Lib.hid hq4
                have y14 := hs4.cell y1 (fun e => Nat.lt_irrefl _ (HOX.out X e))
                have hdy := MS.delY BT4.out x.key HXK.out
                rw [HKY.out.notS hIY.out HNO.out, HQY.out] at hdy
                have HDY := Lib.hid hdy
                clear hdy
                clear hq4 hb4 hs4
                go_wp2_with fail
                refine HDY.out.mono ?_
                rintro e w5 ⟨rfl, q5, hq5, hb5, hs5⟩
                have BT5 := Lib.hid hb5
                have S5 := Lib.hid (S4.out.trans hs5)
                have HQ5 := Lib.hid hq5
                clear hq5 hb5 hs5
                go_wp2_with fail
                go_roundw
                case rel =>
                  refine ⟨k + 1, q4, q5, _, _, ks, vs, by omega, by go_num, HQ4.out, HQ5.out, BT5.out, HKX.out.del_no hIX.out HNO.out, HKY.out.del_no hIY.out HNO.out, by have := HLL.out; omega, ?_, BB.out.trans ((BTA.out.low S5.out).mono HLO.out)⟩
                  rw [← HLL.out]; exact TA.out.stp S5.out
                case measure => simp [intOf]; omega
              ·
                have hk1' : (x.k == 1) = false := by simpa using hk1
                clear hk1
                have hdx := MS.putX BTA.out x.key x.val HXK.out
                rw [show putB (hashN a0 b0) mx x.key = false from HKX.out.notS hIX.out HNO.out, HKX.out.putEq (by have := HLL.out; omega), HQX.out] at hdx
                have HDX := Lib.hid hdx
                clear hdx
                go_wp2_with fail
                refine HDX.out.mono ?_
                rintro e w4 ⟨rfl, q4, hq4, hb4, hs4⟩
                have BT4 := Lib.hid hb4
                have S4 := Lib.hid hs4
                have HQ4 := Lib.hid hq4
                have y14 := hs4.cell y1 (fun e => Nat.lt_irrefl _ (HOX.out X e))
                have y24 := hs4.cell y2 (fun e => Nat.lt_irrefl _ (HOX.out X e))
                have hdy := MS.putY BT4.out x.key x.val HXK.out
                rw [show putB (hashN a1 b1) my x.key = false from HKY.out.notS hIY.out HNO.out, HKY.out.putEq (by have := HLL.out; omega), HQY.out] at hdy
                have HDY := Lib.hid hdy
                clear hdy
                clear hq4 hb4 hs4
                go_wp2_with fail
                refine HDY.out.mono ?_
                rintro e w5 ⟨rfl, q5, hq5, hb5, hs5⟩
                have BT5 := Lib.hid hb5
                have S5 := Lib.hid (S4.out.trans hs5)
                have HQ5 := Lib.hid hq5
                have y15 := S5.out.cell y1 (fun e => Nat.lt_irrefl _ (HOX.out X e))
                have y25 := S5.out.cell y2 (fun e => Nat.lt_irrefl _ (HOX.out X e))
                clear hq5 hb5 hs5 y14 y24 y0 y1 y2
                have T5 : Hid (Two2 w5 w1.heap.size (MS.two q4 q5) (.slice ka j kc) j (.slice va j vc) j (textsV ks) (textsV vs)) := (TA.out.stp S5.out).of
                have B5 : Hid (Below w.heap.size w w5) := BB.out.trans ((BTA.out.low S5.out).mono HLO.out)
                have Z5 : Hid (w1.heap.size ≤ w5.heap.size) := BT5.out.1.le
                have O5 : Hid (∀ t, MS.two q4 q5 t → t < w5.heap.size) := BT5.out.lt
                have KZ : Hid (0 < w1.heap.size) := BT5.out.1.pos
                have XK : Hid (∀ r, (Value.slice ka j kc).ownBlock = some r → r ≠ X ∧ ¬ MS.two q4 q5 r ∧ r ≠ 0) := fun r hr => ⟨by have := (own_lt HTW.out.r1 hr).2; have := HXX.out; omega, T5.out.s1 r hr, by have := (own_lt HTW.out.r1 hr).1; have := KZ.out; omega⟩
                have XV : Hid (∀ r, (Value.slice va j vc).ownBlock = some r → r ≠ X ∧ ¬ MS.two q4 q5 r ∧ r ≠ 0) := fun r hr => ⟨by have := (own_lt HTW.out.r2 hr).2; have := HXX.out; omega, T5.out.s2 r hr, by have := (own_lt HTW.out.r2 hr).1; have := KZ.out; omega⟩
                have SK : Hid (∀ W, Kept (fun t => t ≠ X ∧ ¬ MS.two q4 q5 t ∧ t ≠ 0) w5 W → W.cell? ⟨X, 1, none⟩ = some (.string x.key) ∧ W.cell? ⟨X, 2, none⟩ = some (.string x.val)) := by
                  show ∀ W, _
                  intro W hW
                  exact ⟨kept_cell hW y15 (fun h => h.1 rfl), kept_cell hW y25 (fun h => h.1 rfl)⟩
                have RK : Hid (∀ r, (Value.slice ka j kc).ownBlock = some r → w1.heap.size ≤ r) := fun r hr => (own_lt T5.out.r1 hr).1
                have RV : Hid (∀ r, (Value.slice va j vc).ownBlock = some r → w1.heap.size ≤ r) := fun r hr => (own_lt T5.out.r2 hr).1
                have LV : Hid (∀ r, (Value.slice va j vc).ownBlock = some r → r < w5.heap.size) := fun r hr => (own_lt T5.out.r2 hr).2
                have LK : Hid (∀ r, (Value.slice ka j kc).ownBlock = some r → r < w5.heap.size) := fun r hr => (own_lt T5.out.r1 hr).2
                have hj5 : j ≤ 100000 := by omega
                go_upto_region 27 with fail
                go_region_held3 (fun W => W.cell? ⟨X, 1, none⟩ = some (.string x.key) ∧ W.cell? ⟨X, 2, none⟩ = some (.string x.val))
                  (first | (refine SK.out _ ?_; repeat (first | exact KW2.out | exact KW1.out | exact Kept.refl _ _ | refine Kept.drew ?_ | refine Kept.alloc ?_ _)))
                  (first
                    | (refine step_row1 rfl _ _ rfl ((T5.out.alloc _).drew) rfl _ x.key rfl (by simp) (by have := Z5.out; simp; omega) (fun t h => by have := O5.out t h; simp; omega) hj5 ?_; intro v6 w6 t6 g6; have T6 := Lib.hid t6; have KW1 : Hid (Kept (fun t => t ≠ X ∧ ¬ MS.two q4 q5 t ∧ t ≠ 0) w5 w6) := ((Kept.refl _ _).alloc _).drew.grown g6 (fun r e => .inl (XK.out r e)); have L6 : Hid (Below w1.heap.size w5 w6) := (((Below.refl _ w5).alloc Z5.out _).drew).grown g6 (by have := Z5.out; simp; omega) RK.out; clear t6 g6)
                    | (refine step_row1 rfl _ _ rfl (((T5.out.alloc _).alloc _).drew) rfl _ x.key rfl (by simp) (by have := Z5.out; simp; omega) (fun t h => by have := O5.out t h; simp; omega) hj5 ?_; intro v6 w6 t6 g6; have T6 := Lib.hid t6; have KW1 : Hid (Kept (fun t => t ≠ X ∧ ¬ MS.two q4 q5 t ∧ t ≠ 0) w5 w6) := (((Kept.refl _ _).alloc _).alloc _).drew.grown g6 (fun r e => .inl (XK.out r e)); have L6 : Hid (Below w1.heap.size w5 w6) := ((((Below.refl _ w5).alloc Z5.out _).alloc (by have := Z5.out; simp; omega) _).drew).grown g6 (by have := Z5.out; simp; omega) RK.out; have G6 : Hid (∀ b t, w5.heap.size ≤ b → ((w5.alloc _).alloc _).drew.cell? ⟨b, 0, none⟩ = some (.string t) → w6.cell? ⟨b, 0, none⟩ = some (.string t)) := (fun b t hb hc => grown_new g6 LK.out hc hb); clear t6 g6)
                    | (refine step_row2 rfl _ _ rfl (T6.out.alloc _) rfl _ x.val rfl (by simp) (by have := Z5.out; have := KW1.out.size; simp; omega) (fun t h => by have := O5.out t h; have := KW1.out.size; simp; omega) hj5 ?_; intro v7 w7 t7 g7; have T7 := Lib.hid t7; have KW2 : Hid (Kept (fun t => t ≠ X ∧ ¬ MS.two q4 q5 t ∧ t ≠ 0) w5 w7) := (KW1.out.alloc _).grown g7 (fun r e => .inl (XV.out r e)); have L7 : Hid (Below w1.heap.size w5 w7) := (L6.out.alloc (by have := Z5.out; have := KW1.out.size; omega) _).grown g7 (by have := Z5.out; have := KW1.out.size; simp; omega) RV.out; clear t7 g7)
                    | (refine step_row2 rfl _ _ rfl T6.out rfl _ x.val rfl (G6.out _ _ (by simp) (by simp)) (by have := Z5.out; have := KW1.out.size; omega) (fun t h => by have := O5.out t h; have := KW1.out.size; omega) hj5 ?_; intro v7 w7 t7 g7; have T7 := Lib.hid t7; have KW2 : Hid (Kept (fun t => t ≠ X ∧ ¬ MS.two q4 q5 t ∧ t ≠ 0) w5 w7) := KW1.out.grown g7 (fun r e => .inl (XV.out r e)); have L7 : Hid (Below w1.heap.size w5 w7) := L6.out.grown g7 (by have := Z5.out; have := KW1.out.size; omega) RV.out; clear t7 g7))
                all_goals (
                  have BT7 : Hid (MS.Both w1.heap.size w7 q4 a0 b0 _ q5 a1 b1 _) := BT5.out.kept KW2.out (fun t h e => e.2.1 h) (fun e => e.2.2 rfl)
                  go_wp2_with fail
                  go_roundw
                  case rel =>
                    refine ⟨k + 1, q4, q5, _, _, ks ++ [x.key], vs ++ [x.val], by omega, by go_num, HQ4.out, HQ5.out, BT7.out, HKX.out.put_new hIX.out HNO.out (by have := HLL.out; have := HKX.out.n; omega) _, HKY.out.put_new hIY.out HNO.out (by have := HLL.out; have := HKY.out.n; omega) _, by have := HLL.out; simp; omega, ?_, B5.out.trans (L7.out.mono HLO.out)⟩
                    have := T7.out.to
                    rw [show (ks ++ [x.key]).length = j + 1 by have := HLL.out; simp; omega, show textsV (ks ++ [x.key]) = textsV ks ++ [.string x.key] by simp [textsV], show textsV (vs ++ [x.val]) = textsV vs ++ [.string x.val] by simp [textsV]]
                    exact this
                  case measure => simp [intOf]; omega)
            · have HKT := Lib.hid hkt
              obtain ⟨y, hy⟩ : ∃ y, vs[t]? = some y := ⟨_, List.getElem?_eq_getElem (by have := HKX.out.len; have := HLL.out; omega)⟩
              have HVT := Lib.hid hy
              clear HAT hkt hy
              obtain ⟨gk, kc', hvk, hkc', _, _, hkcell⟩ := own_read TA.out.r1 (by omega)
              injection hvk with hka _ hkc''
              subst hka hkc''
              obtain ⟨gv, vc', hvv, hvc', _, _, hvcell⟩ := own_read TA.out.r2 (by omega)
              injection hvv with hva _ hvc''
              subst hva hvc''
              have HKC := Lib.hid hkcell
              have HVC := Lib.hid hvcell
              clear hkcell hvcell
              have hvl : vs.length = j := by have := HKX.out.len; have := HLL.out; omega
              have HVL := Lib.hid hvl
              clear hvl
              have h0t : (0 : Int) ≤ (t : Int) := by omega
              have hwt : IntKind.i64.wrap ((t : Int) + 1) = (t : Int) + 1 := IntWalk.i64_in _ (by omega)
              by_cases hk1 : x.k = 1
              ·
                rw [hk1] at y0
                clear hk1
                have hdx := MS.delX BTA.out x.key HXK.out
                rw [HKX.out.isS hIX.out HKT.out, HQX.out] at hdx
                have HDX := Lib.hid hdx
                clear hdx
                go_wp2_with fail
                refine HDX.out.mono ?_
                rintro e w4 ⟨rfl, q4, hq4, hb4, hs4⟩
                have BT4 := Lib.hid hb4
                have S4 := Lib.hid hs4
                have HQ4 := Lib.hid hq4
                have y14 := hs4.cell y1 (fun e => Nat.lt_irrefl _ (HOX.out X e))
                have hdy := MS.delY BT4.out x.key HXK.out
                rw [HKY.out.isS hIY.out HKT.out, HQY.out] at hdy
                have HDY := Lib.hid hdy
                clear hdy
                clear hq4 hb4 hs4
                go_wp2_with fail
                refine HDY.out.mono ?_
                rintro e w5 ⟨rfl, q5, hq5, hb5, hs5⟩
                have BT5 := Lib.hid hb5
                have S5 := Lib.hid (S4.out.trans hs5)
                have HQ5 := Lib.hid hq5
                clear hq5 hb5 hs5 y14 y0 y1 y2
                have T5 := Lib.hid (TA.out.stp S5.out)
                have B5 : Hid (Below w.heap.size w w5) := BB.out.trans ((BTA.out.low S5.out).mono HLO.out)
                have Z5 : Hid (w1.heap.size ≤ w5.heap.size) := BT5.out.1.le
                have O5 : Hid (∀ t, MS.two q4 q5 t → t < w5.heap.size) := BT5.out.lt
                obtain ⟨q2, c2, hsl2, hq2, hrd2⟩ := cut_from gk j kc t htj hkc
                have hsl1 := cut_low gk j kc t (by omega)
                have HL1 : Hid (((textsV ks).take t).length = t) := by show _ = _; have := HLL.out; simp [textsV]; omega
                have HL2 : Hid (((textsV ks).drop (t + 1)).length = j - (t + 1)) := by show _ = _; have := HLL.out; simp [textsV]; omega
                have KC5 : Hid (∀ W, Below w5.heap.size w5 W → ∀ i u, (textsV ks)[i]? = some u → W.cell? ⟨gk, i, none⟩ = some u) := by
                  show ∀ W, _
                  intro W hW i u h
                  have := (T5.out.r1.cells (g := gk) rfl) i u h
                  rw [Addr.add_lit, Nat.zero_add] at this
                  exact low_cell hW (Nat.le_refl _) this
                have RD1 : Hid (∀ W, Below w5.heap.size w5 W → ∀ i u, ((textsV ks).take t)[i]? = some u → W.cell? ((⟨gk, 0, none⟩ : Addr).add i) = some u) := by
                  show ∀ W, _
                  intro W hW i u h
                  rw [Addr.add_lit, Nat.zero_add]
                  rw [List.getElem?_take] at h
                  split at h
                  · exact KC5.out W hW i u h
                  · cases h
                have RD2 : Hid (∀ W, Below w5.heap.size w5 W → ∀ i u, ((textsV ks).drop (t + 1))[i]? = some u → W.cell? (q2.add i) = some u) := by
                  show ∀ W, _
                  intro W hW
                  exact hrd2 W (textsV ks) (by have := HLL.out; simp [textsV]; omega) (KC5.out W hW)
                have ON1 : Hid (∀ u ∈ (textsV ks).take t, u.oneCell' = true) := fun u hu => textsV_one _ u (List.mem_of_mem_take hu)
                have ON2 : Hid (∀ u ∈ (textsV ks).drop (t + 1), u.oneCell' = true) := fun u hu => textsV_one _ u (List.mem_of_mem_drop hu)
                have hj5 : t + 0 ≤ 100000 := by omega
                have hj6 : 0 + t + (j - (t + 1)) ≤ 100000 := by omega
                have hj7 : 0 + t ≤ 100000 := by omega
                have LB5 : Hid (Below w5.heap.size w5 (w5.alloc (.cells #[] 9)).drew) := ((Below.refl _ w5).alloc (Nat.le_refl _) _).drew
                clear hrd2 hq2
                go_upto_region 19 with fail
                go_region_law (first
                  | (refine step_cat rfl _ _ rfl (own_empty (w := (w5.alloc (.cells #[] 9)).drew) (g := w5.heap.size) (base := w5.heap.size) (heap_alloc_new w5 _) (Nat.le_refl _)) rfl ⟨gk, 0, none⟩ _ ((textsV ks).take t) rfl HL1.out (RD1.out _ LB5.out) ON1.out LB5.out.size hj7 ?_; intro v6 w6 o6 g6; have O6 := Lib.hid o6; have L6 : Hid (Below w5.heap.size w5 w6) := LB5.out.grown g6 LB5.out.size (fun r e => Nat.le_of_eq (Option.some.inj e)); clear o6 g6)
                  | (refine step_cat rfl _ _ rfl O6.out rfl q2 _ ((textsV ks).drop (t + 1)) rfl HL2.out (RD2.out _ L6.out) ON2.out L6.out.size hj6 ?_; intro v7 w7 o7 g7; have O7 := Lib.hid o7; have L7 : Hid (Below w5.heap.size w5 w7) := L6.out.grown g7 L6.out.size (fun r e => (own_lt O6.out e).1); clear o7 g7))
                have HV5 := Lib.hid T5.out.r2
                have O7W : Hid (w7.ownsRow w5.heap.size 9 1 v7 (0 + t + (j - (t + 1))) (textsV (ks.eraseIdx t))) := by
                  show World.ownsRow _ _ _ _ _ _ _
                  have := O7.out
                  rw [List.nil_append, textsV_erase] at this
                  exact this
                have HV7 := Lib.hid (own_below T5.out.r2 (Nat.le_refl _) L7.out)
                obtain ⟨r2, d2, hsm2, hr2, hre2⟩ := cut_from gv j vc t htj hvc
                have hsm1 := cut_low gv j vc t (by omega)
                have HM1 : Hid (((textsV vs).take t).length = t) := by show _ = _; have := HVL.out; simp [textsV]; omega
                have HM2 : Hid (((textsV vs).drop (t + 1)).length = j - (t + 1)) := by show _ = _; have := HVL.out; simp [textsV]; omega
                have KC7 : Hid (∀ W, Below w7.heap.size w7 W → ∀ i u, (textsV vs)[i]? = some u → W.cell? ⟨gv, i, none⟩ = some u) := by
                  show ∀ W, _
                  intro W hW i u h
                  have := (HV7.out.cells (g := gv) rfl) i u h
                  rw [Addr.add_lit, Nat.zero_add] at this
                  exact low_cell hW (Nat.le_refl _) this
                have RE1 : Hid (∀ W, Below w7.heap.size w7 W → ∀ i u, ((textsV vs).take t)[i]? = some u → W.cell? ((⟨gv, 0, none⟩ : Addr).add i) = some u) := by
                  show ∀ W, _
                  intro W hW i u h
                  rw [Addr.add_lit, Nat.zero_add]
                  rw [List.getElem?_take] at h
                  split at h
                  · exact KC7.out W hW i u h
                  · cases h
                have RE2 : Hid (∀ W, Below w7.heap.size w7 W → ∀ i u, ((textsV vs).drop (t + 1))[i]? = some u → W.cell? (r2.add i) = some u) := by
                  show ∀ W, _
                  intro W hW
                  exact hre2 W (textsV vs) (by have := HVL.out; simp [textsV]; omega) (KC7.out W hW)
                have OM1 : Hid (∀ u ∈ (textsV vs).take t, u.oneCell' = true) := fun u hu => textsV_one _ u (List.mem_of_mem_take hu)
                have OM2 : Hid (∀ u ∈ (textsV vs).drop (t + 1), u.oneCell' = true) := fun u hu => textsV_one _ u (List.mem_of_mem_drop hu)
                have LB7 : Hid (Below w7.heap.size w7 (w7.alloc (.cells #[] 9)).drew) := ((Below.refl _ w7).alloc (Nat.le_refl _) _).drew
                clear hre2 hr2 hsl1 hsl2
                go_upto_region 20 with fail
                go_region_law (first
                  | (refine step_cat rfl _ _ rfl (own_empty (w := (w7.alloc (.cells #[] 9)).drew) (g := w7.heap.size) (base := w7.heap.size) (heap_alloc_new w7 _) (Nat.le_refl _)) rfl ⟨gv, 0, none⟩ _ ((textsV vs).take t) rfl HM1.out (RE1.out _ LB7.out) OM1.out LB7.out.size hj7 ?_; intro v8 w8 o8 g8; have O8 := Lib.hid o8; have L8 : Hid (Below w7.heap.size w7 w8) := LB7.out.grown g8 LB7.out.size (fun r e => Nat.le_of_eq (Option.some.inj e)); clear o8 g8)
                  | (refine step_cat rfl _ _ rfl O8.out rfl r2 _ ((textsV vs).drop (t + 1)) rfl HM2.out (RE2.out _ L8.out) OM2.out L8.out.size hj6 ?_; intro v9 w9 o9 g9; have O9 := Lib.hid o9; have L9 : Hid (Below w7.heap.size w7 w9) := L8.out.grown g9 L8.out.size (fun r e => (own_lt O8.out e).1); clear o9 g9))
                have O9W : Hid (w9.ownsRow w7.heap.size 9 1 v9 (0 + t + (j - (t + 1))) (textsV (vs.eraseIdx t))) := by
                  show World.ownsRow _ _ _ _ _ _ _
                  have := O9.out
                  rw [List.nil_append, textsV_erase] at this
                  exact this
                have L59 : Hid (Below w5.heap.size w5 w9) := L7.out.trans (L9.out.mono L7.out.size)
                have BT9 : Hid (MS.Both w1.heap.size w9 q4 a0 b0 _ q5 a1 b1 _) := BT5.out.below (Nat.le_refl _) L59.out
                clear hsm1 hsm2
                go_wp2_with fail
                go_roundw
                case rel =>
                  have hel : (ks.eraseIdx t).length = 0 + t + (j - (t + 1)) := by rw [List.length_eraseIdx_of_lt (by have := HLL.out; omega)]; have := HLL.out; omega
                  refine ⟨k + 1, q4, q5, _, _, ks.eraseIdx t, vs.eraseIdx t, by omega, by go_num, HQ4.out, HQ5.out, BT9.out, HKX.out.del_old hIX.out HKT.out, HKY.out.del_old hIY.out HKT.out, by rw [hel]; omega, ?_, B5.out.trans (L59.out.mono (Nat.le_trans HLO.out Z5.out))⟩
                  rw [hel]
                  exact two_new O7W.out O9W.out L9.out L7.out.size Z5.out O5.out
                case measure => simp [intOf]; omega
              · have hk1' : (x.k == 1) = false := by simpa using hk1
                clear hk1
                have hdx := MS.putX BTA.out x.key x.val HXK.out
                rw [show putB (hashN a0 b0) mx x.key = true from HKX.out.isS hIX.out HKT.out, HKX.out.putEq (by have := HLL.out; omega), HQX.out] at hdx
                have HDX := Lib.hid hdx
                clear hdx
                go_wp2_with fail
                refine HDX.out.mono ?_
                rintro e w4 ⟨rfl, q4, hq4, hb4, hs4⟩
                have BT4 := Lib.hid hb4
                have S4 := Lib.hid hs4
                have HQ4 := Lib.hid hq4
                have y14 := hs4.cell y1 (fun e => Nat.lt_irrefl _ (HOX.out X e))
                have y24 := hs4.cell y2 (fun e => Nat.lt_irrefl _ (HOX.out X e))
                have hdy := MS.putY BT4.out x.key x.val HXK.out
                rw [show putB (hashN a1 b1) my x.key = true from HKY.out.isS hIY.out HKT.out, HKY.out.putEq (by have := HLL.out; omega), HQY.out] at hdy
                have HDY := Lib.hid hdy
                clear hdy hq4 hb4 hs4
                go_wp2_with fail
                refine HDY.out.mono ?_
                rintro e w5 ⟨rfl, q5, hq5, hb5, hs5⟩
                have BT5 := Lib.hid hb5
                have S5 := Lib.hid (S4.out.trans hs5)
                have HQ5 := Lib.hid hq5
                have y25 := S5.out.cell y2 (fun e => Nat.lt_irrefl _ (HOX.out X e))
                clear hq5 hb5 hs5 y14 y24 y0 y1 y2
                have T5 := Lib.hid (TA.out.stp S5.out)
                have B5 : Hid (Below w.heap.size w w5) := BB.out.trans ((BTA.out.low S5.out).mono HLO.out)
                have Z5 : Hid (w1.heap.size ≤ w5.heap.size) := BT5.out.1.le
                have KZ : Hid (0 < w1.heap.size) := BT5.out.1.pos
                have hst : (w5.cell? ⟨gv, t, none⟩) = some (.string y) := by
                  rw [T5.out.r2.cellAt t (by omega)]
                  simp [textsV, HVT.out]
                have hfr : w5.frozen? ⟨gv, t, none⟩ = false := T5.out.r2.frozenAt t
                have htj' : (t : Int) < (j : Int) := by omega
                go_wp2_with fail
                go_roundw
                case rel =>
                  have K6 : Kept (fun r => r = gv) w5 (w5.setCell ⟨gv, t, none⟩ (.string x.val)) := (Kept.refl (fun r => r = gv) w5).setCell (p := ⟨gv, t, none⟩) (.inl rfl) _
                  have hgv : w1.heap.size ≤ gv := (own_lt T5.out.r2 rfl).1
                  refine ⟨k + 1, q4, q5, _, _, ks, vs.set t x.val, by omega, by go_num, HQ4.out, HQ5.out, BT5.out.kept K6 (fun r h e => T5.out.s2 gv rfl (e ▸ h)) (fun e => by have := KZ.out; omega), HKX.out.put_old hIX.out HKT.out _, HKY.out.put_old hIY.out HKT.out _, by have := HLL.out; omega, ?_, B5.out.trans ((K6.below Z5.out (fun r _ e => by rw [e]; exact hgv)).mono HLO.out)⟩
                  rw [← HLL.out, show textsV (vs.set t x.val) = (textsV vs).set t (.string x.val) by simp [textsV, List.map_set]]
                  exact T5.out.set2 t htj _
                case measure => simp [intOf]; omega
      · obtain rfl : k = n2 := by omega
        have hd2 : decide ((k : Int) < (k : Int)) = false := decide_eq_false (by omega)
        obtain ⟨wE, hwE⟩ : ∃ wE, wE = wr := ⟨_, rfl⟩
        rw [← hwE] at HBr HTW HB ⊢
        clear hwE
        have hlx := MS.len_any qx a0 b0 mx wE HBr.out.1.at_ HBr.out.1.len
        rw [HKX.out.n, HQX.out, ← HLL.out] at hlx
        have HLX := Lib.hid hlx
        have hly := MS.len_any qy a1 b1 my wE HBr.out.2.1.at_ HBr.out.2.1.len
        rw [HKY.out.n, HQY.out, ← HLL.out] at hly
        have HLY := Lib.hid hly
        clear hlx hly
        go_wp2_with fail
        refine HLX.out.mono ?_
        rintro e w4 ⟨rfl, rfl⟩
        go_wp2_with fail
        refine HLY.out.mono ?_
        rintro e w4 ⟨rfl, rfl⟩
        go_wp2
        go_loopw [178] (fun i wr => ∃ t : Nat, t ≤ l ∧ i = .int .i64 t ∧ Below wE.heap.size wE wr) (fun i _ => l - (intOf i).toNat)
        case atStart => exact ⟨0, by omega, rfl, Below.refl _ _⟩
        case round =>
          obtain ⟨t, htl, rfl, hbt⟩ := hrel
          have HBT := Lib.hid hbt
          clear hbt
          by_cases hlt2 : t < l
          · have hd3 : decide ((t : Int) < (l : Int)) = true := decide_eq_true (by omega)
            have hkn2 : (t : Int) < (l : Int) := by omega
            obtain ⟨gk, kc', hvk, _, _, _, hkcell⟩ := own_read HTW.out.r1 (by omega)
            injection hvk with hka _ hkc'
            subst hka
            obtain ⟨gv, vc', hvv, _, _, _, hvcell⟩ := own_read HTW.out.r2 (by omega)
            injection hvv with hva _ hvc'
            subst hva
            obtain ⟨s, hs⟩ : ∃ s, ks[t]? = some s := ⟨_, List.getElem?_eq_getElem (by rw [← HLL.out]; exact hlt2)⟩
            obtain ⟨v, hv, hhx⟩ := HKX.out.val hs
            obtain ⟨v2, hv2, hhy⟩ := HKY.out.val hs
            obtain rfl : v2 = v := by rw [hv] at hv2; injection hv2 with h; exact h.symm
            have s0 := low_cell HBT.out (Nat.le_refl _) (hkcell t (.string s) (by simp [textsV, hs]))
            have HV0 := Lib.hid (hvcell t (.string v2) (by simp [textsV, hv]))
            have LXt := Lib.hid (HBr.out.1.below (Nat.le_refl _) HBT.out)
            have LYt := Lib.hid (HBr.out.2.1.below (Nat.le_refl _) HBT.out)
            have hgx := MS.get_any qx a0 b0 mx s (HBr.out.1.keys _ _ hhx) wr LXt.out.at_ LXt.out.inv
            rw [MS.getV_has HBr.out.1.inv hhx, HQX.out] at hgx
            have HGX := Lib.hid hgx
            have HSZ := Lib.hid (HBr.out.1.keys _ _ hhx)
            have HGV := Lib.hid (MS.getV_has HBr.out.2.1.inv hhy)
            clear hgx hs hv hv2 hhx hhy hkcell hvcell hkc' hvc'
            go_wp2_with fail
            refine HGX.out.mono ?_
            rintro e w6 ⟨rfl, hb6⟩
            have LY6 := Lib.hid (LYt.out.below (Nat.le_refl _) hb6)
            have B6 : Hid (Below wE.heap.size wE w6) := HBT.out.trans (hb6.mono HBT.out.size)
            have hgy := MS.get_any qy a1 b1 my s HSZ.out w6 LY6.out.at_ LY6.out.inv
            rw [HGV.out, HQY.out] at hgy
            have HGY := Lib.hid hgy
            clear hgy hb6 s0
            go_wp2_with fail
            refine HGY.out.mono ?_
            rintro e w7 ⟨rfl, hb7⟩
            have B7 : Hid (Below wE.heap.size wE w7) := B6.out.trans (hb7.mono B6.out.size)
            have v0 := low_cell B7.out (Nat.le_refl _) HV0.out
            clear hb7
            go_wp2_with fail
            go_roundw
            case rel => exact ⟨t + 1, by omega, by go_num, B7.out⟩
            case measure => simp [intOf]; omega
          · have hd3 : decide ((t : Int) < (l : Int)) = false := decide_eq_false (by omega)
            have BE : Hid (Below w.heap.size w wr) := HB.out.trans (HBT.out.mono HB.out.size)
            go_wp2_with fail
            refine (HLV.out _ BE.out).mono ?_
            rintro e w9 ⟨rfl, hb⟩
            go_wp2
            go_ret
            exact ⟨rfl, hb⟩

theorem lifted (os : Os) (started : os.Started) (H : Type) (enc : TypeId × Value → H) :
    ReturnsInHanded {} Tryd.checked os 3 .any (fun w args => (Rows.swissMapsSpec.pre enc Tryd.prog Tryd.f3 [] false w args ∧ laidMetH Tryd.prog [("corbel/group.shifts", Rows.laid_corbel_group_shifts)] w) ∧ sizedMet enc Tryd.prog Tryd.f3 (OpenSpec.ofChange Rows.swissMapsSpec) false w args)
      (Rows.swissMapsSpec.post enc Tryd.prog Tryd.f3 false true false false) := by
  refine returnsInHanded_of_change_and (C := Tryd.checked) (X := fun w _ => laidMetH Tryd.prog [("corbel/group.shifts", Rows.laid_corbel_group_shifts)] w) (fun _ _ _ hh h => h.of_heap hh) own started (by kernel_rfl) Tryd.func3
    (ChangeSpec.witness_at (enc := enc) (C := Tryd.checked) (os := os) (X := fun w _ => laidMetH Tryd.prog [("corbel/group.shifts", Rows.laid_corbel_group_shifts)] w) false (laidWorld os) #[.agg #[.int .u64 0, .int .u64 0], .agg #[.int .u64 0, .int .u64 0], .slice none 0 0] 8 rfl (by kernel_rfl) (by kernel_rfl) (by kernel_rfl) (by kernel_rfl) (by kernel_rfl) (laidWorld_met os _)) ?_
  intro W base args ds gs before hval0 hW hcnd hsz0 hL _
  have hsz : (DataW.weightsEach Tryd.prog (Tryd.f3.params.toList ++ Rows.swissMapsSpec.plain.varTypes Tryd.prog) (ds ++ gs)).all (· ≤ reachBytes) = true := hsz0
  clear hsz0
  have hval : ∀ (j : Nat) t v, Tryd.f3.params[j]? = some t → args[j]? = some v → Value.okWide Tryd.prog W .any base t v := hval0
  have hW' := hW
  obtain ⟨p, q, hA0, hV, rfl, hfz, hnd⟩ := hW
  have hA : DataW.TrodAll enc Tryd.prog W 0 (fun _ => true) true Tryd.f3.params.toList args.toList ds p := hA0
  rw [Tryd.params3] at hA hval hsz
  obtain ⟨v0, vs0, d0, ds0, p0, q0, hargs, rfl, rfl, h0, r0⟩ := trodAll_cons hA
  obtain ⟨v1, vs1, d1, ds1, p1, q1, rfl, rfl, rfl, h1, r1⟩ := trodAll_cons r0
  obtain ⟨v2, vs2, d2, ds2, p2, q2, rfl, rfl, rfl, h2, r2⟩ := trodAll_cons r1
  obtain ⟨rfl, rfl, rfl⟩ := trodAll_nil r2
  obtain rfl : args = #[v0, v1, v2] := by cases args; simp_all
  obtain ⟨rfl, rfl⟩ := trodVars_none hV
  have hfit0 := fun q hq => of_decide_eq_true (List.all_eq_true.1 hsz q hq)
  clear hsz
  obtain ⟨F0, hfit1⟩ := fit_cons hfit0
  obtain ⟨a0, b0, rfl, rfl, rfl⟩ := open_key (hval 0 24 v0 rfl rfl) h0
  obtain ⟨F1, hfit2⟩ := fit_cons hfit1
  obtain ⟨a1, b1, rfl, rfl, rfl⟩ := open_key (hval 1 24 v1 rfl rfl) h1
  obtain ⟨F2, hfit3⟩ := fit_cons hfit2
  have k2 := h2
  have lt2 : ∀ x ∈ p2, x.block < W.heap.size := by obtain ⟨m, hm⟩ := k2; exact DataW.trod_lt m _ _ _ hm
  obtain ⟨s2, n2, c2, xs2, rfl, ar2⟩ := open_acts (hval 2 25 v2 rfl rfl) h2 F2
  clear hA0 hval0
  try simp only [List.append_nil] at hW'
  refine (walk W (sh_of_laid hL) a0 b0 a1 b1 s2 n2 c2 xs2 ar2).mono fun e W' ⟨he, hg⟩ => ?_
  subst he
  exact ⟨_, rfl, _, _, _, [], _, [], hW', (trodAll_cons_mk (shut_bool Tryd.underlying4 _) trodAll_mk0), (trodAll_cons_mk (shut_key a0 b0) (trodAll_cons_mk (shut_key a1 b1) (trodAll_cons_mk (Below.trod laidOut (by kernel_rfl) (of_decide_eq_true (by kernel_rfl)) k2 hg lt2) trodAll_mk0))), rfl, hg.frame _, fun h => by cases h⟩

theorem over : Rows.swissMapsRow.holds Tryd.pinned (OpenSpec.ofChange Rows.swissMapsSpec) :=
  OpenClaim.holds_of_wide 3 Tryd.f3 rfl rfl rfl rfl rfl rfl rfl ⟨rfl, rfl, rfl, rfl, rfl⟩ rfl rfl rfl rfl rfl (by kernel_rfl) Tryd.func3 (by kernel_rfl)
    (of_decide_eq_true (by kernel_rfl)) (by unfold Func.isWrapper; first | (rw [if_pos (by decide +kernel)]; kernel_rfl) | (rw [if_neg (by decide +kernel)]; exact ⟨rfl, rfl⟩))
    (fun os started H enc _ => lifted os started H enc)

/-- ████ THE STATEMENT ████ -/
theorem proved : Rows.SwissMapsCardSaid :=
  Claim7.holds_tied_plain_at .later [] [.data] true (true, "7e67664e74d41973af7dd467c0ac8d15e139965457cce989b794987f38f310ec") false
    over (fun _ h => by cases h) (by kernel_rfl) (fun _ h => by cases h) swissMaps_row_tie rfl ⟨rfl, rfl⟩ (by kernel_rfl) rfl
    (fun f fn hf hfn => by
      obtain rfl : f = 3 := Option.some.inj ((show Tryd.prog.funcNamed "corbel/corbellaw05.SwissMaps" = some 3 by kernel_rfl).symm.trans hf) |>.symm
      obtain rfl : fn = Tryd.f3 := (Option.some.inj (Tryd.func3.symm.trans hfn)).symm
      refine ⟨by kernel_rfl, fun j t ht => ?_⟩
      have hm := Array.mem_of_getElem? ht
      rw [Tryd.params3] at hm
      simp only [List.mem_toArray, List.mem_cons, List.not_mem_nil, or_false] at hm
      rcases hm with rfl | rfl | rfl
      · exact (show Tryd.prog.wantsStandIn 24 = false by kernel_rfl)
      · exact (show Tryd.prog.wantsStandIn 24 = false by kernel_rfl)
      · exact (show Tryd.prog.wantsStandIn 25 = false by kernel_rfl))
    (by kernel_rfl)
#print axioms proved
end Go.Proofs.YtcooapflofiolaaDoor.swissMaps
