/- Are two lists alike; are the members alike. -/
import Derived.Test.YtedifbdjcebefaaRise
import Derived.Below
namespace Go.Proofs.Ytedifbdjcebefaa
open Go Go.RowKit
set_option linter.unusedVariables false
set_option linter.unusedSimpArgs false
set_option maxRecDepth 100000
set_option maxHeartbeats 1000000
theorem cell_block_lt {W : World} {p : Addr} {x : Value} (h : W.cell? p = some x) : p.block < W.heap.size := by
  unfold World.cell? at h
  cases e : W.heap[p.block]? with
  | none => simp [e] at h
  | some o => exact (Array.getElem?_eq_some_iff.1 e).1
theorem Rd.keep {w w' : World} {a : Option Addr} {n : Nat} {l : List Int} {m : Nat} (h : Rd w a n l) (hm : w.heap.size ≤ m) (hb : Below m w w') : Rd w' a n l := by
  refine ⟨h.1, ?_⟩
  rcases h.2 with h0 | ⟨b, off, e, hc⟩
  · exact .inl h0
  · exact .inr ⟨b, off, e, fun j hj => (hb.cell (Nat.lt_of_lt_of_le (cell_block_lt (hc j hj)) hm)).trans (hc j hj)⟩
def likeB (l l' : List Int) (k : Nat) : Bool := (List.range k).all fun i => l.getD i 0 == l'.getD i 0
theorem likeB_succ (l l' : List Int) (k : Nat) : likeB l l' (k + 1) = (likeB l l' k && l.getD k 0 == l'.getD k 0) := by simp [likeB, List.range_succ]
theorem likeB_all {l l' : List Int} (hl : l.length = l'.length) : likeB l l' l.length = true ↔ l = l' := by
  simp only [likeB, List.all_eq_true, List.mem_range, beq_iff_eq]
  constructor
  · intro h
    apply List.ext_getElem hl
    intro i h1 h2
    have := h i h1
    simpa [List.getD_eq_getElem?_getD, List.getElem?_eq_getElem h1, List.getElem?_eq_getElem h2] using this
  · rintro rfl i _; rfl
theorem ints_any (a : Option Addr) (n c : Nat) (l : List Int) (a' : Option Addr) (n' c' : Nat) (l' : List Int) (w : World) (hR : Rd w a n l) (hR' : Rd w a' n' l') (hb : n ≤ 1000) (hb' : n' ≤ 1000) : Calls Try.prog 17 #[.slice a n c, .slice a' n' c'] w fun e w' => e = .returned (.bool (decide (l = l'))) ∧ Below w.heap.size w w' := by
  have HR := Lib.hid hR
  have HR' := Lib.hid hR'
  clear hR hR'
  by_cases hn : n = n'
  · subst hn
    go_enter Try.func17, Try.ntmps17
    go_wp2_with fail
    go_loopw [13] (fun iv wx => Below w.heap.size w wx ∧ ∃ k : Nat, k ≤ n ∧ iv = .int .i64 k ∧ likeB l l' k = true) (fun iv _ => n - (intOf iv).toNat)
    case atStart => exact ⟨Below.refl _ _, 0, by omega, rfl, rfl⟩
    case round =>
      obtain ⟨hbw, k, hk, rfl, hf⟩ := hrel
      have HF := Lib.hid hf
      clear hf
      have R1 := Lib.hid (HR.out.keep (Nat.le_refl _) hbw)
      have R2 := Lib.hid (HR'.out.keep (Nat.le_refl _) hbw)
      by_cases hlt : k < n
      · obtain ⟨b, off, rfl, hc⟩ := R1.out.at hlt
        obtain ⟨b', off', rfl, hc'⟩ := R2.out.at hlt
        have HS := Lib.hid (likeB_succ l l' k)
        have HN : Hid ((l.getD k 0 == l'.getD k 0) = false → decide (l = l') = false) := by
          show _ → _
          intro h
          rw [decide_eq_false_iff_not]
          rintro rfl
          simp at h
        generalize l.getD k 0 = y at *
        generalize l'.getD k 0 = y' at *
        by_cases hyy : y = y'
        · subst hyy
          go_wp2_with fail
          go_region
          all_goals (
            go_wp2
            go_roundw
            case rel => exact ⟨by first | exact hbw | exact hbw.drew, k + 1, by omega, by go_num, by rw [HS.out, HF.out]; simp⟩
            case measure => simp [intOf]; omega)
        · have hne : (y == y') = false := by simpa using hyy
          have HT := Lib.hid (HN.out hne)
          go_wp2_with fail
          go_region
          all_goals (
            go_wp2
            go_ret
            exact ⟨ret_bool HT.out.symm, by first | exact hbw | exact hbw.drew⟩)
      · have HT : Hid (decide (l = l') = true) := by
          show _ = _
          have h1 := HR.out.1
          have h2 := HR'.out.1
          have h3 := HF.out
          rw [show k = l.length by omega] at h3
          exact decide_eq_true ((likeB_all (by omega)).1 h3)
        go_wp2
        go_ret
        exact ⟨ret_bool HT.out.symm, hbw⟩
  · have HT : Hid (decide (l = l') = false) := by
      show _ = _
      rw [decide_eq_false_iff_not]
      rintro rfl
      exact hn (HR.out.1.symm.trans HR'.out.1)
    have hnn : ((n : Int) == (n' : Int)) = false := by simp; omega
    go_enter Try.func17, Try.ntmps17
    go_wp2_with fail
    go_ret
    exact ⟨ret_bool HT.out.symm, Below.refl _ _⟩
/-- A block that holds two lists' slices: members. -/
def CB (w : World) (b : Nat) (v u : Value) : Prop := w.heap[b]? = some (.cells #[v, u] 24 (0, 0))
theorem CB.c0 {w b v u} (h : CB w b v u) : w.cell? ⟨b, 0, none⟩ = some v := by unfold CB at h; simp [World.cell?, h]
theorem CB.c1 {w b v u} (h : CB w b v u) : w.cell? ⟨b, 1, none⟩ = some u := by unfold CB at h; simp [World.cell?, h]
theorem CB.frozen {w b v u} (h : CB w b v u) (j : Nat) : w.frozen? ⟨b, j, none⟩ = false := by unfold CB at h; simp [World.frozen?, h]
theorem CB.lt {w b v u} (h : CB w b v u) : b < w.heap.size := (Array.getElem?_eq_some_iff.1 h).1
theorem CB.below {w w' b v u} {m : Nat} (h : CB w b v u) (hm : w.heap.size ≤ m) (hb : Below m w w') : CB w' b v u := (hb.block b (Nat.lt_of_lt_of_le h.lt hm)).trans h
theorem CB.new (w : World) (v u : Value) : CB (w.alloc (.cells #[v, u] 24)) w.heap.size v u := heap_alloc_new w _
theorem CB.s0 {w b v u} (h : CB w b v u) (x : Value) : CB (w.setCell ⟨b, 0, none⟩ x) b x u := by
  have := heap_setCell_same w b 0 _ 24 x h
  unfold CB; rw [this]; rfl
theorem CB.s1 {w b v u} (h : CB w b v u) (x : Value) : CB (w.setCell ⟨b, 1, none⟩ x) b v x := by
  have := heap_setCell_same w b 1 _ 24 x h
  unfold CB; rw [this]; rfl
theorem same_any (a : Option Addr) (n c : Nat) (l : List Int) (b : Option Addr) (m d : Nat) (k : List Int) (a' : Option Addr) (n' c' : Nat) (l' : List Int) (b' : Option Addr) (m' d' : Nat) (k' : List Int) (w : World)
    (h1 : Rd w a n l) (h2 : Rd w b m k) (h3 : Rd w a' n' l') (h4 : Rd w b' m' k') (hn : n ≤ 1000) (hm : m ≤ 1000) (hn' : n' ≤ 1000) (hm' : m' ≤ 1000) :
    Calls Try.prog 12 #[.agg #[.slice a n c, .slice b m d], .agg #[.slice a' n' c', .slice b' m' d']] w fun e w' => e = .returned (.bool (decide (l = l') && decide (k = k'))) ∧ Below w.heap.size w w' := by
  have H1 := Lib.hid h1
  have H2 := Lib.hid h2
  have H3 := Lib.hid h3
  have H4 := Lib.hid h4
  clear h1 h2 h3 h4
  go_enter Try.func12, Try.ntmps12
  have L1 : Hid (Below w.heap.size w ((w.alloc (.cells #[.slice a n c, .slice b m d] 24)).alloc (.cells #[.slice a' n' c', .slice b' m' d'] 24))) := ((Below.refl _ w).alloc (by simp) _).alloc (by simp) _
  have C1 : Hid (CB ((w.alloc (.cells #[.slice a n c, .slice b m d] 24)).alloc (.cells #[.slice a' n' c', .slice b' m' d'] 24)) w.heap.size (.slice a n c) (.slice b m d)) := (CB.new w _ _).below (Nat.le_refl _) ((Below.refl _ _).alloc (Nat.le_refl _) _)
  have C2 : Hid (CB ((w.alloc (.cells #[.slice a n c, .slice b m d] 24)).alloc (.cells #[.slice a' n' c', .slice b' m' d'] 24)) (w.heap.size + 1) (.slice a' n' c') (.slice b' m' d')) := by
    have := CB.new (w.alloc (.cells #[.slice a n c, .slice b m d] 24)) (.slice a' n' c') (.slice b' m' d')
    rw [show (w.alloc (.cells #[.slice a n c, .slice b m d] 24)).heap.size = w.heap.size + 1 by simp] at this
    exact this
  cases he : decide (l = l')
  · have HE := Lib.hid he
    clear he
    go_wp2_with (go_at_call 17; refine (ints_any a n c l a' n' c' l' _ (H1.out.keep (Nat.le_refl _) L1.out) (H3.out.keep (Nat.le_refl _) L1.out) hn hn').mono ?_; rintro e w' ⟨rfl, hb1⟩; rw [HE.out])
    go_ret
    exact ⟨ret_bool rfl, L1.out.trans (hb1.mono (by simp; omega))⟩
  · have HE := Lib.hid he
    clear he
    go_wp2_with fail
    go_at_call 17
    refine (ints_any a n c l a' n' c' l' _ (H1.out.keep (Nat.le_refl _) L1.out) (H3.out.keep (Nat.le_refl _) L1.out) hn hn').mono ?_
    rintro e w1 ⟨rfl, hb1⟩
    rw [HE.out]
    have L2 := Lib.hid (L1.out.trans (hb1.mono (by simp; omega)))
    have K1 := C1.out.below (Nat.le_refl _) hb1
    have K2 := C2.out.below (Nat.le_refl _) hb1
    have d1 := K1.c1
    have d2 := K2.c1
    clear hb1 K1 K2
    go_wp2_with fail
    go_at_call 17
    refine (ints_any b m d k b' m' d' k' _ (H2.out.keep (Nat.le_refl _) L2.out) (H4.out.keep (Nat.le_refl _) L2.out) hm hm').mono ?_
    rintro e w2 ⟨rfl, hb2⟩
    have L3 := Lib.hid (L2.out.trans (hb2.mono (L2.out.size)))
    clear hb2
    go_wp2_with fail
    go_ret
    exact ⟨ret_bool (by simp), L3.out⟩
end Go.Proofs.Ytedifbdjcebefaa
