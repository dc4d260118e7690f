/- Members: lists that are read; do they rise, may they be, are they alike. -/
import Derived.Test.YtbgfpmnicpmieaaEGoodC
import Derived.Shelf.Lay
import Derived.Shelf.LaySoft
import Derived.Shelf.SlicesE.IndexFunc
import Derived.Ground.SlgfProg
namespace Go.Proofs.Ytbgfpmnicpmieaa
open Go Go.RowKit Go.Shelf Go.Sort
set_option linter.unusedVariables false
set_option linter.unusedSimpArgs false
set_option maxRecDepth 100000
set_option maxHeartbeats 1000000
shelf_try shelf_lay_g SlLaysH.n8 Slgf 8 at Try 76 as Try.laysCF
/-- A slice of numbers that came in. -/
def IsRow (w : World) (a : Option Addr) (len cap : Nat) (zs : List Int) : Prop :=
  (a = none ∧ len = 0 ∧ cap = 0 ∧ zs = []) ∨
  ∃ x, a = some x ∧ len ≤ cap ∧ cap ≤ maxLen ∧ zs.length = cap ∧ (∀ i, i < zs.length → w.cell? (x.add i) = some (.int .i64 (zs.getD i 0))) ∧ ∀ n ∈ zs, (Lit.int .i64 n).wf = true
theorem IsRow.len {w : World} {a : Option Addr} {len cap : Nat} {zs : List Int} (h : IsRow w a len cap zs) : len ≤ zs.length := by
  rcases h with ⟨_, rfl, _, rfl⟩ | ⟨x, rfl, hl, hm, hz, hcell, hwz⟩
  · simp
  · omega
theorem IsRow.whole {w : World} {a : Option Addr} {len cap : Nat} {zs : List Int} (h : IsRow w a len cap zs) (hk : 0 < len) : ∃ (b off : Nat), a = some ⟨b, off, none⟩ ∧ (∀ j, j < zs.length → w.cell? ⟨b, off + j, none⟩ = some (.int .i64 (zs.getD j 0))) ∧ b < w.heap.size := by
  rcases h with ⟨_, rfl, _, _⟩ | ⟨x, rfl, hl, hm, hz, hcell, hwz⟩
  · omega
  · obtain ⟨b, off, spot⟩ := x
    have hc00 := hcell 0 (by omega)
    have hspot : spot = none := by simpa [Addr.add] using World.cell?_spot hc00
    subst hspot
    have hall : ∀ j, j < zs.length → w.cell? ⟨b, off + j, none⟩ = some (.int .i64 (zs.getD j 0)) := fun j hj => by
      have hadd : (⟨b, off, none⟩ : Addr).add j = ⟨b, off + j, none⟩ := by unfold Addr.add; split <;> simp_all
      rw [← hadd]; exact hcell j hj
    refine ⟨b, off, rfl, hall, ?_⟩
    have hc0 := hall 0 (by omega)
    unfold World.cell? at hc0
    cases e : w.heap[b]? with
    | none => simp [e] at hc0
    | some o => exact (Array.getElem?_eq_some_iff.1 e).1
theorem take_snoc (z : List Int) (k : Nat) (h : k < z.length) : z.take (k + 1) = z.take k ++ [z.getD k 0] := by
  rw [List.take_succ_eq_append_getElem h]; simp [List.getD_eq_getElem?_getD, List.getElem?_eq_getElem h]
def bI (l : List Int) (n : Int) : Bool := l.any (· == n)
theorem bI_snoc (l : List Int) (x n : Int) : bI (l ++ [x]) n = (bI l n || x == n) := by simp [bI]
/-- A list of n elements that a slice leads to. -/
def Rd (w : World) (a : Option Addr) (n : Nat) (l : List Int) : Prop :=
  l.length = n ∧ (n = 0 ∨ ∃ b off, a = some ⟨b, off, none⟩ ∧ ∀ j, j < n → w.cell? ⟨b, off + j, none⟩ = some (.int .i64 (l.getD j 0)))
theorem Rd.at {w : World} {a : Option Addr} {n : Nat} {l : List Int} (h : Rd w a n l) {k : Nat} (hk : k < n) : ∃ b off, a = some ⟨b, off, none⟩ ∧ w.cell? ⟨b, off + k, none⟩ = some (.int .i64 (l.getD k 0)) := by
  rcases h.2 with rfl | ⟨b, off, e, hc⟩
  · omega
  · exact ⟨b, off, e, hc k hk⟩
theorem Rd.pre {w : World} {a : Option Addr} {n : Nat} {l : List Int} (h : Rd w a n l) {k : Nat} (hk : k ≤ n) : Rd w a k (l.take k) := by
  refine ⟨by have := h.1; simp; omega, ?_⟩
  rcases h.2 with rfl | ⟨b, off, e, hc⟩
  · exact .inl (by omega)
  · exact .inr ⟨b, off, e, fun j hj => by rw [hc j (by omega), List.getD_eq_getElem?_getD, List.getD_eq_getElem?_getD, List.getElem?_take_of_lt hj]⟩
theorem IsRow.rd {w : World} {a : Option Addr} {n c : Nat} {z : List Int} (h : IsRow w a n c z) : Rd w a n (z.take n) := by
  have hl := h.len
  refine ⟨by simp; omega, ?_⟩
  by_cases h0 : n = 0
  · exact .inl h0
  · obtain ⟨b, off, e, hc, _⟩ := h.whole (by omega)
    exact .inr ⟨b, off, e, fun j hj => by rw [hc j (by omega), List.getD_eq_getElem?_getD, List.getD_eq_getElem?_getD, List.getElem?_take_of_lt hj]⟩
theorem index_any (a : Option Addr) (n c : Nat) (l : List Int) (x : Int) (w : World) (hR : Rd w a n l) (hb : n ≤ 1000) : Calls Try.prog 87 #[.slice a n c, .int .i64 x] w fun e w' => ∃ r : Int, e = .returned (.int .i64 r) ∧ decide (0 ≤ r) = bI l x ∧ w = w' := by
  have HR := Lib.hid hR
  clear hR
  go_enter Try.func87, Try.ntmps87
  go_wp2_with fail
  go_loop [8] (fun iv => ∃ k : Nat, k ≤ n ∧ iv = .int .i64 k ∧ bI (l.take k) x = false) (fun iv => n - (intOf iv).toNat)
  case atStart => exact ⟨0, by omega, rfl, rfl⟩
  case round =>
    obtain ⟨k, hk, rfl, hf⟩ := hrel
    have HF := Lib.hid hf
    clear hf
    by_cases hlt : k < n
    · obtain ⟨b, off, rfl, hc⟩ := HR.out.at hlt
      have HS := Lib.hid (take_snoc l k (by have := HR.out.1; omega))
      have S1 := Lib.hid (bI_snoc (l.take k) (l.getD k 0) x)
      have HM : Hid (l.getD k 0 ∈ l) := by
        show _ ∈ _
        have h1 := HR.out.1
        rw [List.getD_eq_getElem?_getD, List.getElem?_eq_getElem (by omega)]; simp
      generalize l.getD k 0 = y at *
      cases hyx : (x == y)
      · have HN : Hid ((y == x) = false) := by
          show _ = _
          rw [beq_eq_false_iff_ne] at hyx ⊢
          exact fun h => hyx h.symm
        go_wp2
        go_round
        case rel => exact ⟨k + 1, by omega, by go_num, by rw [HS.out, S1.out, HF.out, HN.out]; rfl⟩
        case measure => simp [intOf]; omega
      · have HT : Hid (bI l x = true) := by
          show _ = _
          simp only [bI, List.any_eq_true]
          refine ⟨y, HM.out, ?_⟩
          have := eq_of_beq hyx
          subst this; simp
        go_wp2
        go_ret
        exact ⟨k, rfl, by rw [HT.out]; simp, rfl⟩
    · have HT : Hid (bI l x = false) := by
        show _ = _
        have := HF.out
        rwa [List.take_of_length_le (by have := HR.out.1; omega)] at this
      go_wp2
      go_ret
      exact ⟨-1, rfl, by rw [HT.out]; rfl, rfl⟩
theorem contains_any (a : Option Addr) (n c : Nat) (l : List Int) (x : Int) (w : World) (hR : Rd w a n l) (hb : n ≤ 1000) : Calls Try.prog 74 #[.slice a n c, .int .i64 x] w fun e w' => e = .returned (.bool (bI l x)) ∧ w = w' := by
  have C := Lib.hid (index_any a n c l x w hR hb)
  clear hR
  go_enter Try.func74, Try.ntmps74
  go_wp2_with fail
  refine C.out.mono ?_
  rintro e w' ⟨r, rfl, hr, rfl⟩
  have HRR := Lib.hid hr
  clear hr
  go_wp2
  go_ret
  exact ⟨ret_bool HRR.out, rfl⟩
def okB (l : List Int) (i : Nat) : Bool := decide (1 ≤ l.getD i 0) && decide (l.getD i 0 ≤ 9) && (i == 0 || decide (l.getD (i - 1) 0 < l.getD i 0))
def upB (l : List Int) (k : Nat) : Bool := (List.range k).all (okB l)
def risesB (l : List Int) : Bool := upB l l.length
theorem upB_succ (l : List Int) (k : Nat) : upB l (k + 1) = (upB l k && okB l k) := by simp [upB, List.range_succ]
theorem upB_not {l : List Int} {k n : Nat} (h : okB l k = false) (hk : k < n) : upB l n = false := by
  cases e : upB l n with
  | false => rfl
  | true =>
    simp only [upB, List.all_eq_true, List.mem_range] at e
    rw [e k hk] at h; cases h
theorem upB_at {l : List Int} {n : Nat} (h : upB l n = true) {k : Nat} (hk : k < n) : okB l k = true := by
  simp only [upB, List.all_eq_true, List.mem_range] at h
  exact h k hk
theorem rises_low {l : List Int} (h : risesB l = true) : ∀ k, k < l.length → (k : Int) + 1 ≤ l.getD k 0
  | 0, hk => by
    have := upB_at h hk
    simp only [okB, Bool.and_eq_true, decide_eq_true_eq] at this
    have := this.1.1
    omega
  | k + 1, hk => by
    have h1 := rises_low h k (by omega)
    have := upB_at h hk
    simp only [okB, Bool.and_eq_true, Bool.or_eq_true, decide_eq_true_eq, Nat.add_sub_cancel] at this
    rcases this.2 with h2 | h2
    · simp at h2
    · omega
theorem rises_len {l : List Int} (h : risesB l = true) : l.length ≤ 9 := by
  rcases Nat.lt_or_ge 9 l.length with h1 | h1
  · have h2 := rises_low h 9 h1
    have := upB_at h h1
    simp only [okB, Bool.and_eq_true, decide_eq_true_eq] at this
    have := this.1.2
    omega
  · exact h1
theorem Rd.all {w : World} {a : Option Addr} {n : Nat} {l : List Int} (h : Rd w a n l) (h0 : 0 < n) : ∃ b off, a = some ⟨b, off, none⟩ ∧ ∀ j, j < n → w.cell? ⟨b, off + j, none⟩ = some (.int .i64 (l.getD j 0)) := by
  rcases h.2 with rfl | h
  · omega
  · exact h
theorem rises_any (a : Option Addr) (n c : Nat) (l : List Int) (w : World) (hR : Rd w a n l) (hb : n ≤ 9223372036854775807) : Calls Try.prog 75 #[.slice a n c] w fun e w' => e = .returned (.bool (risesB l)) ∧ w = w' := by
  have HR := Lib.hid hR
  clear hR
  go_enter Try.func75, Try.ntmps75
  go_wp2_with fail
  go_loop [7] (fun iv => ∃ k : Nat, k ≤ n ∧ iv = .int .i64 k ∧ upB l k = true) (fun iv => n - (intOf iv).toNat)
  case atStart => exact ⟨0, by omega, rfl, rfl⟩
  case round =>
    obtain ⟨k, hk, rfl, hf⟩ := hrel
    have HF := Lib.hid hf
    clear hf
    by_cases hlt : k < n
    · obtain ⟨b, off, rfl, hall⟩ := HR.out.all (by omega)
      have hc := hall k hlt
      have HA := Lib.hid hall
      have HS := Lib.hid (upB_succ l k)
      have HN : Hid (okB l k = false → risesB l = false) := by
        show _ → _
        intro h; exact upB_not h (by have := HR.out.1; omega)
      have HE : Hid (okB l k = (decide (1 ≤ l.getD k 0) && decide (l.getD k 0 ≤ 9) && (k == 0 || decide (l.getD (k - 1) 0 < l.getD k 0)))) := rfl
      clear hall
      by_cases h1 : l.getD k 0 < 1
      · have HT : Hid (risesB l = false) := HN.out (by rw [HE.out, decide_eq_false (by omega)]; rfl)
        generalize l.getD k 0 = y at *
        go_wp2
        go_ret
        exact ⟨ret_bool HT.out.symm, rfl⟩
      · by_cases h9 : 9 < l.getD k 0
        · have HT : Hid (risesB l = false) := HN.out (by rw [HE.out, decide_eq_true (show 1 ≤ l.getD k 0 by omega), decide_eq_false (show ¬ l.getD k 0 ≤ 9 by omega)]; rfl)
          generalize l.getD k 0 = y at *
          go_wp2
          go_ret
          exact ⟨ret_bool HT.out.symm, rfl⟩
        · rcases Nat.eq_zero_or_pos k with rfl | hk0
          · have HT : Hid (okB l 0 = true) := by
              show _ = _
              rw [HE.out, decide_eq_true (show 1 ≤ l.getD 0 0 by omega), decide_eq_true (show l.getD 0 0 ≤ 9 by omega)]; rfl
            generalize l.getD 0 0 = y at *
            rw [Nat.add_zero] at hc
            go_wp2
            go_round
            case rel => exact ⟨1, by omega, by go_num, by rw [HS.out, HT.out]; rfl⟩
            case measure => simp [intOf]; omega
          · obtain ⟨m, rfl⟩ : ∃ m, k = m + 1 := ⟨k - 1, by omega⟩
            have hcm := HA.out m (by omega)
            by_cases hle : l.getD (m + 1) 0 ≤ l.getD m 0
            · have HT : Hid (risesB l = false) := HN.out (by
                rw [HE.out, decide_eq_true (show 1 ≤ l.getD (m + 1) 0 by omega), decide_eq_true (show l.getD (m + 1) 0 ≤ 9 by omega), Nat.add_sub_cancel, decide_eq_false (show ¬ l.getD m 0 < l.getD (m + 1) 0 by omega)]; simp)
              generalize l.getD (m + 1) 0 = y at *
              generalize l.getD m 0 = z at *
              go_wp2
              go_ret
              exact ⟨ret_bool HT.out.symm, rfl⟩
            · have HT : Hid (okB l (m + 1) = true) := by
                show _ = _
                rw [HE.out, decide_eq_true (show 1 ≤ l.getD (m + 1) 0 by omega), decide_eq_true (show l.getD (m + 1) 0 ≤ 9 by omega), Nat.add_sub_cancel, decide_eq_true (show l.getD m 0 < l.getD (m + 1) 0 by omega)]; simp
              generalize l.getD (m + 1) 0 = y at *
              generalize l.getD m 0 = z at *
              go_wp2
              go_round
              case rel => exact ⟨m + 2, by omega, by go_num, by rw [HS.out, HT.out, HF.out]; rfl⟩
              case measure => simp [intOf]; omega
    · have HT : Hid (risesB l = true) := by
        show _ = _
        have h1 := HR.out.1
        have h2 := HF.out
        rw [show k = l.length by omega] at h2
        exact h2
      go_wp2
      go_ret
      exact ⟨ret_bool HT.out.symm, rfl⟩
theorem refrises_any (a : Option Addr) (n c : Nat) (l : List Int) (w : World) (hR : Rd w a n l) (hb : n ≤ 9223372036854775807) : Calls Try.prog 79 #[.slice a n c] w fun e w' => e = .returned (.bool (risesB l)) ∧ w = w' := by
  have HR := Lib.hid hR
  clear hR
  go_enter Try.func79, Try.ntmps79
  go_wp2_with fail
  go_loop [7] (fun iv => ∃ k : Nat, k ≤ n ∧ iv = .int .i64 k ∧ upB l k = true) (fun iv => n - (intOf iv).toNat)
  case atStart => exact ⟨0, by omega, rfl, rfl⟩
  case round =>
    obtain ⟨k, hk, rfl, hf⟩ := hrel
    have HF := Lib.hid hf
    clear hf
    by_cases hlt : k < n
    · obtain ⟨b, off, rfl, hall⟩ := HR.out.all (by omega)
      have hc := hall k hlt
      have HA := Lib.hid hall
      have HS := Lib.hid (upB_succ l k)
      have HN : Hid (okB l k = false → risesB l = false) := by
        show _ → _
        intro h; exact upB_not h (by have := HR.out.1; omega)
      have HE : Hid (okB l k = (decide (1 ≤ l.getD k 0) && decide (l.getD k 0 ≤ 9) && (k == 0 || decide (l.getD (k - 1) 0 < l.getD k 0)))) := rfl
      clear hall
      by_cases h1 : l.getD k 0 < 1
      · have HT : Hid (risesB l = false) := HN.out (by rw [HE.out, decide_eq_false (by omega)]; rfl)
        generalize l.getD k 0 = y at *
        go_wp2
        go_ret
        exact ⟨ret_bool HT.out.symm, rfl⟩
      · by_cases h9 : 9 < l.getD k 0
        · have HT : Hid (risesB l = false) := HN.out (by rw [HE.out, decide_eq_true (show 1 ≤ l.getD k 0 by omega), decide_eq_false (show ¬ l.getD k 0 ≤ 9 by omega)]; rfl)
          generalize l.getD k 0 = y at *
          go_wp2
          go_ret
          exact ⟨ret_bool HT.out.symm, rfl⟩
        · rcases Nat.eq_zero_or_pos k with rfl | hk0
          · have HT : Hid (okB l 0 = true) := by
              show _ = _
              rw [HE.out, decide_eq_true (show 1 ≤ l.getD 0 0 by omega), decide_eq_true (show l.getD 0 0 ≤ 9 by omega)]; rfl
            generalize l.getD 0 0 = y at *
            rw [Nat.add_zero] at hc
            go_wp2
            go_round
            case rel => exact ⟨1, by omega, by go_num, by rw [HS.out, HT.out]; rfl⟩
            case measure => simp [intOf]; omega
          · obtain ⟨m, rfl⟩ : ∃ m, k = m + 1 := ⟨k - 1, by omega⟩
            have hcm := HA.out m (by omega)
            by_cases hle : l.getD (m + 1) 0 ≤ l.getD m 0
            · have HT : Hid (risesB l = false) := HN.out (by
                rw [HE.out, decide_eq_true (show 1 ≤ l.getD (m + 1) 0 by omega), decide_eq_true (show l.getD (m + 1) 0 ≤ 9 by omega), Nat.add_sub_cancel, decide_eq_false (show ¬ l.getD m 0 < l.getD (m + 1) 0 by omega)]; simp)
              generalize l.getD (m + 1) 0 = y at *
              generalize l.getD m 0 = z at *
              go_wp2
              go_ret
              exact ⟨ret_bool HT.out.symm, rfl⟩
            · have HT : Hid (okB l (m + 1) = true) := by
                show _ = _
                rw [HE.out, decide_eq_true (show 1 ≤ l.getD (m + 1) 0 by omega), decide_eq_true (show l.getD (m + 1) 0 ≤ 9 by omega), Nat.add_sub_cancel, decide_eq_true (show l.getD m 0 < l.getD (m + 1) 0 by omega)]; simp
              generalize l.getD (m + 1) 0 = y at *
              generalize l.getD m 0 = z at *
              go_wp2
              go_round
              case rel => exact ⟨m + 2, by omega, by go_num, by rw [HS.out, HT.out, HF.out]; rfl⟩
              case measure => simp [intOf]; omega
    · have HT : Hid (risesB l = true) := by
        show _ = _
        have h1 := HR.out.1
        have h2 := HF.out
        rw [show k = l.length by omega] at h2
        exact h2
      go_wp2
      go_ret
      exact ⟨ret_bool HT.out.symm, rfl⟩
theorem Rd.keep {w w' : World} {a : Option Addr} {n : Nat} {l : List Int} {m : Nat} (h : Rd w a n l) (hm : w.heap.size ≤ m) (hb : Below m w w') : Rd w' a n l := by
  refine ⟨h.1, ?_⟩
  rcases h.2 with h0 | ⟨b, off, e, hc⟩
  · exact .inl h0
  · exact .inr ⟨b, off, e, fun j hj => (hb.cell (Nat.lt_of_lt_of_le (cell_block_lt (hc j hj)) hm)).trans (hc j hj)⟩
def likeB (l l' : List Int) (k : Nat) : Bool := (List.range k).all fun i => l.getD i 0 == l'.getD i 0
theorem likeB_succ (l l' : List Int) (k : Nat) : likeB l l' (k + 1) = (likeB l l' k && l.getD k 0 == l'.getD k 0) := by simp [likeB, List.range_succ]
theorem likeB_all {l l' : List Int} (hl : l.length = l'.length) : likeB l l' l.length = true ↔ l = l' := by
  simp only [likeB, List.all_eq_true, List.mem_range, beq_iff_eq]
  constructor
  · intro h
    apply List.ext_getElem hl
    intro i h1 h2
    have := h i h1
    simpa [List.getD_eq_getElem?_getD, List.getElem?_eq_getElem h1, List.getElem?_eq_getElem h2] using this
  · rintro rfl i _; rfl
theorem ints_any (a : Option Addr) (n c : Nat) (l : List Int) (a' : Option Addr) (n' c' : Nat) (l' : List Int) (w : World) (hR : Rd w a n l) (hR' : Rd w a' n' l') (hb : n ≤ 1000) (hb' : n' ≤ 1000) : Calls Try.prog 64 #[.slice a n c, .slice a' n' c'] w fun e w' => e = .returned (.bool (decide (l = l'))) ∧ Below w.heap.size w w' := by
  have HR := Lib.hid hR
  have HR' := Lib.hid hR'
  clear hR hR'
  by_cases hn : n = n'
  · subst hn
    go_enter Try.func64, Try.ntmps64
    go_wp2_with fail
    go_loopw [13] (fun iv wx => Below w.heap.size w wx ∧ ∃ k : Nat, k ≤ n ∧ iv = .int .i64 k ∧ likeB l l' k = true) (fun iv _ => n - (intOf iv).toNat)
    case atStart => exact ⟨Below.refl _ _, 0, by omega, rfl, rfl⟩
    case round =>
      obtain ⟨hbw, k, hk, rfl, hf⟩ := hrel
      have HF := Lib.hid hf
      clear hf
      have R1 := Lib.hid (HR.out.keep (Nat.le_refl _) hbw)
      have R2 := Lib.hid (HR'.out.keep (Nat.le_refl _) hbw)
      by_cases hlt : k < n
      · obtain ⟨b, off, rfl, hc⟩ := R1.out.at hlt
        obtain ⟨b', off', rfl, hc'⟩ := R2.out.at hlt
        have HS := Lib.hid (likeB_succ l l' k)
        have HN : Hid ((l.getD k 0 == l'.getD k 0) = false → decide (l = l') = false) := by
          show _ → _
          intro h
          rw [decide_eq_false_iff_not]
          rintro rfl
          simp at h
        generalize l.getD k 0 = y at *
        generalize l'.getD k 0 = y' at *
        by_cases hyy : y = y'
        · subst hyy
          go_wp2_with fail
          go_region
          all_goals (
            go_wp2
            go_roundw
            case rel => exact ⟨by first | exact hbw | exact hbw.drew, k + 1, by omega, by go_num, by rw [HS.out, HF.out]; simp⟩
            case measure => simp [intOf]; omega)
        · have hne : (y == y') = false := by simpa using hyy
          have HT := Lib.hid (HN.out hne)
          go_wp2_with fail
          go_region
          all_goals (
            go_wp2
            go_ret
            exact ⟨ret_bool HT.out.symm, by first | exact hbw | exact hbw.drew⟩)
      · have HT : Hid (decide (l = l') = true) := by
          show _ = _
          have h1 := HR.out.1
          have h2 := HR'.out.1
          have h3 := HF.out
          rw [show k = l.length by omega] at h3
          exact decide_eq_true ((likeB_all (by omega)).1 h3)
        go_wp2
        go_ret
        exact ⟨ret_bool HT.out.symm, hbw⟩
  · have HT : Hid (decide (l = l') = false) := by
      show _ = _
      rw [decide_eq_false_iff_not]
      rintro rfl
      exact hn (HR.out.1.symm.trans HR'.out.1)
    have hnn : ((n : Int) == (n' : Int)) = false := by simp; omega
    go_enter Try.func64, Try.ntmps64
    go_wp2_with fail
    go_ret
    exact ⟨ret_bool HT.out.symm, Below.refl _ _⟩
/-- A block that holds two lists' slices: members. -/
def CB (w : World) (b : Nat) (v u : Value) : Prop := w.heap[b]? = some (.cells #[v, u] 35 (0, 0))
theorem CB.c0 {w b v u} (h : CB w b v u) : w.cell? ⟨b, 0, none⟩ = some v := by unfold CB at h; simp [World.cell?, h]
theorem CB.c1 {w b v u} (h : CB w b v u) : w.cell? ⟨b, 1, none⟩ = some u := by unfold CB at h; simp [World.cell?, h]
theorem CB.frozen {w b v u} (h : CB w b v u) (j : Nat) : w.frozen? ⟨b, j, none⟩ = false := by unfold CB at h; simp [World.frozen?, h]
theorem CB.lt {w b v u} (h : CB w b v u) : b < w.heap.size := (Array.getElem?_eq_some_iff.1 h).1
theorem CB.below {w w' b v u} {m : Nat} (h : CB w b v u) (hm : w.heap.size ≤ m) (hb : Below m w w') : CB w' b v u := (hb.block b (Nat.lt_of_lt_of_le h.lt hm)).trans h
theorem CB.new (w : World) (v u : Value) : CB (w.alloc (.cells #[v, u] 35)) w.heap.size v u := heap_alloc_new w _
theorem CB.s0 {w b v u} (h : CB w b v u) (x : Value) : CB (w.setCell ⟨b, 0, none⟩ x) b x u := by
  have := heap_setCell_same w b 0 _ 35 x h
  unfold CB; rw [this]; rfl
theorem CB.s1 {w b v u} (h : CB w b v u) (x : Value) : CB (w.setCell ⟨b, 1, none⟩ x) b v x := by
  have := heap_setCell_same w b 1 _ 35 x h
  unfold CB; rw [this]; rfl
theorem same_any (a : Option Addr) (n c : Nat) (l : List Int) (b : Option Addr) (m d : Nat) (k : List Int) (a' : Option Addr) (n' c' : Nat) (l' : List Int) (b' : Option Addr) (m' d' : Nat) (k' : List Int) (w : World)
    (h1 : Rd w a n l) (h2 : Rd w b m k) (h3 : Rd w a' n' l') (h4 : Rd w b' m' k') (hn : n ≤ 1000) (hm : m ≤ 1000) (hn' : n' ≤ 1000) (hm' : m' ≤ 1000) :
    Calls Try.prog 42 #[.agg #[.slice a n c, .slice b m d], .agg #[.slice a' n' c', .slice b' m' d']] w fun e w' => e = .returned (.bool (decide (l = l') && decide (k = k'))) ∧ Below w.heap.size w w' := by
  have H1 := Lib.hid h1
  have H2 := Lib.hid h2
  have H3 := Lib.hid h3
  have H4 := Lib.hid h4
  clear h1 h2 h3 h4
  go_enter Try.func42, Try.ntmps42
  have L1 : Hid (Below w.heap.size w ((w.alloc (.cells #[.slice a n c, .slice b m d] 35)).alloc (.cells #[.slice a' n' c', .slice b' m' d'] 35))) := ((Below.refl _ w).alloc (by simp) _).alloc (by simp) _
  have C1 : Hid (CB ((w.alloc (.cells #[.slice a n c, .slice b m d] 35)).alloc (.cells #[.slice a' n' c', .slice b' m' d'] 35)) w.heap.size (.slice a n c) (.slice b m d)) := (CB.new w _ _).below (Nat.le_refl _) ((Below.refl _ _).alloc (Nat.le_refl _) _)
  have C2 : Hid (CB ((w.alloc (.cells #[.slice a n c, .slice b m d] 35)).alloc (.cells #[.slice a' n' c', .slice b' m' d'] 35)) (w.heap.size + 1) (.slice a' n' c') (.slice b' m' d')) := by
    have := CB.new (w.alloc (.cells #[.slice a n c, .slice b m d] 35)) (.slice a' n' c') (.slice b' m' d')
    rw [show (w.alloc (.cells #[.slice a n c, .slice b m d] 35)).heap.size = w.heap.size + 1 by simp] at this
    exact this
  cases he : decide (l = l')
  · have HE := Lib.hid he
    clear he
    go_wp2_with (go_at_call 64; refine (ints_any a n c l a' n' c' l' _ (H1.out.keep (Nat.le_refl _) L1.out) (H3.out.keep (Nat.le_refl _) L1.out) hn hn').mono ?_; rintro e w' ⟨rfl, hb1⟩; rw [HE.out])
    go_ret
    exact ⟨ret_bool rfl, L1.out.trans (hb1.mono (by simp; omega))⟩
  · have HE := Lib.hid he
    clear he
    go_wp2_with fail
    go_at_call 64
    refine (ints_any a n c l a' n' c' l' _ (H1.out.keep (Nat.le_refl _) L1.out) (H3.out.keep (Nat.le_refl _) L1.out) hn hn').mono ?_
    rintro e w1 ⟨rfl, hb1⟩
    rw [HE.out]
    have L2 := Lib.hid (L1.out.trans (hb1.mono (by simp; omega)))
    have K1 := C1.out.below (Nat.le_refl _) hb1
    have K2 := C2.out.below (Nat.le_refl _) hb1
    have d1 := K1.c1
    have d2 := K2.c1
    clear hb1 K1 K2
    go_wp2_with fail
    go_at_call 64
    refine (ints_any b m d k b' m' d' k' _ (H2.out.keep (Nat.le_refl _) L2.out) (H4.out.keep (Nat.le_refl _) L2.out) hm hm').mono ?_
    rintro e w2 ⟨rfl, hb2⟩
    have L3 := Lib.hid (L2.out.trans (hb2.mono (L2.out.size)))
    clear hb2
    go_wp2_with fail
    go_ret
    exact ⟨ret_bool (by simp), L3.out⟩
def meetB (V L : List Int) : Bool := V.any (bI L)
def goodB (V L : List Int) : Bool := decide (V ≠ []) && risesB V && risesB L && !meetB V L
theorem gives73 (bx : Nat) (V : Value) (b : Option Addr) (m d : Nat) (L : List Int) (x : Int) (W : World) (hC : CB W bx V (.slice b m d)) (hL : Rd W b m L) (hm : m ≤ 1000) :
    FnGives Try.prog 73 #[.pointer (some ⟨bx, 0, none⟩)] #[.int .i64 x] (.bool (bI L x)) W := by
  show Calls Try.prog 73 #[.int .i64 x, .pointer (some ⟨bx, 0, none⟩)] W _
  have hc1 := hC.c1
  have HL := Lib.hid hL
  clear hL hC
  go_enter Try.func73, Try.ntmps73
  go_wp2_with (go_at_call 74; refine (contains_any b m d L x _ HL.out hm).mono ?_; rintro e w' ⟨rfl, rfl⟩)
  go_ret
  exact ⟨rfl, 0, rfl⟩
theorem cf_any (a : Option Addr) (n c : Nat) (V : List Int) (bx : Nat) (u : Value) (b : Option Addr) (m d : Nat) (L : List Int) (w : World) (hV : Rd w a n V) (hC : CB w bx u (.slice b m d)) (hL : Rd w b m L) (hn : n ≤ 1000) (hm : m ≤ 1000) :
    Calls Try.prog 76 #[.slice a n c, .func (.func 73) #[] #[.pointer (some ⟨bx, 0, none⟩)]] w fun e w' => e = .returned (.bool (meetB V L)) ∧ Below w.heap.size w w' := by
  rcases Nat.eq_zero_or_pos n with rfl | hpos
  · refine (AnyE.slices_ContainsFunc_empty Try.laysCF a c _ w).mono ?_
    rintro e w' ⟨rfl, rfl⟩
    have : V = [] := List.eq_nil_of_length_eq_zero hV.1
    subst this
    exact ⟨rfl, Below.refl _ _⟩
  · obtain ⟨blk, off, rfl, hall⟩ := hV.all hpos
    have eg : ∀ args w, (callFunc 73 args).run Try.prog w = .ok (.enter 73 args) w := enters_of Try.func73 (by kernel_rfl) rfl
    have hl := hV.1
    refine (AnyE.slices_ContainsFunc Try.laysCF (Value.int .i64) (bI L) 73 #[.pointer (some ⟨bx, 0, none⟩)] eg blk off n c V w (fun W x hb => gives73 bx u b m d L x W (hC.below (Nat.le_refl _) hb) (hL.keep (Nat.le_refl _) hb) hm) (by omega) (by omega) (fun j hj => by
      rw [hall j (by omega), getElem!_pos V j hj, List.getD_eq_getElem?_getD, List.getElem?_eq_getElem hj]; rfl)).mono ?_
    rintro e w' ⟨rfl, q, rfl⟩
    rw [List.take_of_length_le (by omega)]
    exact ⟨rfl, below_drewN' (Below.refl _ _) q⟩
theorem good_any (a : Option Addr) (n c : Nat) (V : List Int) (b : Option Addr) (m d : Nat) (L : List Int) (w : World) (hV : Rd w a n V) (hL : Rd w b m L) (hn : n ≤ 9223372036854775807) (hm : m ≤ 9223372036854775807) :
    Calls Try.prog 69 #[.agg #[.slice a n c, .slice b m d]] w fun e w' => e = .returned (.bool (goodB V L)) ∧ Below w.heap.size w w' := by
  have L1 : Hid (Below w.heap.size w (w.alloc (.cells #[.slice a n c, .slice b m d] 35))) := (Below.refl _ w).alloc (by simp) _
  have C1 : Hid (CB (w.alloc (.cells #[.slice a n c, .slice b m d] 35)) w.heap.size (.slice a n c) (.slice b m d)) := CB.new w _ _
  have R1 := Lib.hid (hV.keep (Nat.le_refl _) L1.out)
  have R2 := Lib.hid (hL.keep (Nat.le_refl _) L1.out)
  have HG : Hid (goodB V L = (decide (V ≠ []) && risesB V && risesB L && !meetB V L)) := rfl
  have HV := Lib.hid hV.1
  clear hV hL
  go_enter Try.func69, Try.ntmps69
  rcases Nat.eq_zero_or_pos n with rfl | hpos
  · have h0 : Hid (goodB V L = false) := by
      show _ = _
      have : V = [] := List.eq_nil_of_length_eq_zero HV.out
      rw [HG.out, this]; rfl
    go_wp2_with fail
    go_ret
    exact ⟨ret_bool h0.out.symm, L1.out⟩
  · have HN : Hid (decide (V ≠ []) = true) := by
      show _ = _
      rw [decide_eq_true_iff]
      rintro rfl
      have := HV.out
      simp at this; omega
    have hpos' : (0 : Int) < (n : Int) := by omega
    go_wp2_with fail
    refine (rises_any a n c V _ R1.out hn).mono ?_
    rintro e w1 ⟨rfl, rfl⟩
    cases h1 : risesB V
    · have h0 : Hid (goodB V L = false) := by
        show _ = _
        rw [HG.out, h1]; simp
      go_wp2_with fail
      go_ret
      exact ⟨ret_bool h0.out.symm, L1.out⟩
    have H1 := Lib.hid h1
    clear h1
    go_wp2_with fail
    refine (rises_any b m d L _ R2.out hm).mono ?_
    rintro e w1 ⟨rfl, rfl⟩
    cases h2 : risesB L
    · have h0 : Hid (goodB V L = false) := by
        show _ = _
        rw [HG.out, h2]; simp
      go_wp2_with fail
      go_ret
      exact ⟨ret_bool h0.out.symm, L1.out⟩
    have H2 := Lib.hid h2
    clear h2
    go_wp2_with fail
    refine (cf_any a n c V _ _ b m d L _ R1.out C1.out R2.out (by have := rises_len H1.out; have := R1.out.1; omega) (by have := rises_len H2.out; have := R2.out.1; omega)).mono ?_
    rintro e w1 ⟨rfl, hb⟩
    have h0 : Hid (goodB V L = !meetB V L) := by
      show _ = _
      rw [HG.out, HN.out, H1.out, H2.out]; simp
    have HB := Lib.hid (L1.out.trans (hb.mono (by simp)))
    clear hb
    generalize meetB V L = q at *
    go_wp2_with fail
    go_ret
    exact ⟨ret_bool h0.out.symm, HB.out⟩
theorem meetB_take (V L : List Int) (k : Nat) (h : k < V.length) : meetB (V.take (k + 1)) L = (meetB (V.take k) L || bI L (V.getD k 0)) := by
  rw [take_snoc V k h]; simp [meetB]
theorem meetB_le {V L : List Int} {k : Nat} (h : k < V.length) (hb : bI L (V.getD k 0) = true) : meetB V L = true := by
  simp only [meetB, List.any_eq_true]
  exact ⟨V.getD k 0, by rw [List.getD_eq_getElem?_getD, List.getElem?_eq_getElem h]; simp, hb⟩
theorem refgood_any (a : Option Addr) (n c : Nat) (V : List Int) (b : Option Addr) (m d : Nat) (L : List Int) (w : World) (hV : Rd w a n V) (hL : Rd w b m L) (hn : n ≤ 9223372036854775807) (hm : m ≤ 9223372036854775807) :
    Calls Try.prog 71 #[.agg #[.slice a n c, .slice b m d]] w fun e w' => e = .returned (.bool (goodB V L)) ∧ Below w.heap.size w w' := by
  have L1 : Hid (Below w.heap.size w (w.alloc (.cells #[.slice a n c, .slice b m d] 35))) := (Below.refl _ w).alloc (by simp) _
  have C1 : Hid (CB (w.alloc (.cells #[.slice a n c, .slice b m d] 35)) w.heap.size (.slice a n c) (.slice b m d)) := CB.new w _ _
  have R1 := Lib.hid (hV.keep (Nat.le_refl _) L1.out)
  have R2 := Lib.hid (hL.keep (Nat.le_refl _) L1.out)
  have HG : Hid (goodB V L = (decide (V ≠ []) && risesB V && risesB L && !meetB V L)) := rfl
  have HV := Lib.hid hV.1
  have HL := Lib.hid hL.1
  clear hV hL
  go_enter Try.func71, Try.ntmps71
  go_wp2_with fail
  refine (refrises_any a n c V _ R1.out hn).mono ?_
  rintro e w1 ⟨rfl, rfl⟩
  cases h1 : risesB V
  · have h0 : Hid (goodB V L = false) := by
      show _ = _
      rw [HG.out, h1]; simp
    go_wp2_with fail
    go_ret
    exact ⟨ret_bool h0.out.symm, L1.out⟩
  have H1 := Lib.hid h1
  clear h1
  go_wp2_with fail
  refine (refrises_any b m d L _ R2.out hm).mono ?_
  rintro e w1 ⟨rfl, rfl⟩
  cases h2 : risesB L
  · have h0 : Hid (goodB V L = false) := by
      show _ = _
      rw [HG.out, h2]; simp
    go_wp2_with fail
    go_ret
    exact ⟨ret_bool h0.out.symm, L1.out⟩
  have H2 := Lib.hid h2
  clear h2
  rcases Nat.eq_zero_or_pos n with rfl | hpos
  · have h0 : Hid (goodB V L = false) := by
      show _ = _
      have : V = [] := List.eq_nil_of_length_eq_zero HV.out
      rw [HG.out, this]; rfl
    go_wp2_with fail
    go_ret
    exact ⟨ret_bool h0.out.symm, L1.out⟩
  have HN : Hid (goodB V L = !meetB V L) := by
    show _ = _
    have : decide (V ≠ []) = true := by
      rw [decide_eq_true_iff]
      rintro rfl
      have := HV.out
      simp at this; omega
    rw [HG.out, H1.out, H2.out, this]; simp
  have hn9 : n ≤ 9 := by have := rises_len H1.out; have := R1.out.1; omega
  have hm9 : m ≤ 9 := by have := rises_len H2.out; have := R2.out.1; omega
  have hpos' : ((n : Int) == 0) = false := by simp; omega
  have hc0 := C1.out.c0
  have hc1 := C1.out.c1
  go_wp2_with fail
  generalize (w.alloc (.cells #[.slice a n c, .slice b m d] 35)) = w0 at *
  go_loop [26] (fun iv => ∃ k : Nat, k ≤ n ∧ iv = .int .i64 k ∧ meetB (V.take k) L = false) (fun iv => n - (intOf iv).toNat)
  case atStart => exact ⟨0, by omega, rfl, rfl⟩
  case round =>
    obtain ⟨k, hk, rfl, hf⟩ := hrel
    have HF := Lib.hid hf
    clear hf
    by_cases hlt : k < n
    · obtain ⟨blk, off, rfl, hc⟩ := R1.out.at hlt
      have HS := Lib.hid (meetB_take V L k (by rw [HV.out]; exact hlt))
      have HT : Hid (bI L (V.getD k 0) = true → meetB V L = true) := by
        show _ → _
        exact meetB_le (by rw [HV.out]; exact hlt)
      generalize V.getD k 0 = y at *
      go_wp2_with fail
      go_loop [33] (fun iv => ∃ j : Nat, j ≤ m ∧ iv = .int .i64 j ∧ bI (L.take j) y = false) (fun iv => m - (intOf iv).toNat)
      case atStart => exact ⟨0, by omega, rfl, rfl⟩
      case round =>
        obtain ⟨j, hj, rfl, hf⟩ := hrel
        have HF2 := Lib.hid hf
        clear hf
        by_cases hlt2 : j < m
        · obtain ⟨blk2, off2, rfl, hcj⟩ := R2.out.at hlt2
          have S2 := Lib.hid (take_snoc L j (by rw [HL.out]; exact hlt2))
          have S3 := Lib.hid (bI_snoc (L.take j) (L.getD j 0) y)
          have HM : Hid (L.getD j 0 = y → bI L y = true) := by
            show _ → _
            intro h
            simp only [bI, List.any_eq_true]
            refine ⟨y, ?_, by simp⟩
            have h1 := HL.out
            rw [← h, List.getD_eq_getElem?_getD, List.getElem?_eq_getElem (by omega)]; simp
          generalize L.getD j 0 = z at *
          by_cases hzy : z = y
          · have h0 : Hid (goodB V L = false) := by
              show _ = _
              rw [HN.out, HT.out (HM.out hzy)]; rfl
            have hyz : (y == z) = true := by simp [hzy]
            clear hzy
            go_wp2_with fail
            go_ret
            exact ⟨ret_bool h0.out.symm, L1.out⟩
          · have hyz : (y == z) = false := by simp; exact fun h => hzy h.symm
            have hzy' : Hid ((z == y) = false) := by show _ = _; simpa using hzy
            clear hzy
            go_wp2_with fail
            go_round
            case rel => exact ⟨j + 1, by omega, by go_num, by rw [S2.out, S3.out, HF2.out, hzy'.out]; rfl⟩
            case measure => simp [intOf]; omega
        · have h9 : Hid (meetB (V.take (k + 1)) L = false) := by
            show _ = _
            have h1 := HF2.out
            have h2 := HL.out
            rw [List.take_of_length_le (by omega)] at h1
            rw [HS.out, HF.out, h1]; rfl
          go_wp2_with fail
          go_round
          case rel => exact ⟨k + 1, by omega, by go_num, h9.out⟩
          case measure => simp [intOf]; omega
    · have h0 : Hid (goodB V L = true) := by
        show _ = _
        have h1 := HF.out
        have h2 := HV.out
        rw [List.take_of_length_le (by omega)] at h1
        rw [HN.out, h1]; rfl
      go_wp2_with fail
      go_ret
      exact ⟨ret_bool h0.out.symm, L1.out⟩
end Go.Proofs.Ytbgfpmnicpmieaa
