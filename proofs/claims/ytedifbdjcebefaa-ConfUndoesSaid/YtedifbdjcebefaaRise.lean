/- Does a list rise, of nodes: the code's and the document's. -/
import Derived.Test.YtedifbdjcebefaaBase
namespace Go.Proofs.Ytedifbdjcebefaa
open Go Go.RowKit
set_option linter.unusedVariables false
set_option linter.unusedSimpArgs false
set_option maxRecDepth 100000
set_option maxHeartbeats 1000000
def okB (l : List Int) (i : Nat) : Bool := decide (1 ≤ l.getD i 0) && decide (l.getD i 0 ≤ 9) && (i == 0 || decide (l.getD (i - 1) 0 < l.getD i 0))
def upB (l : List Int) (k : Nat) : Bool := (List.range k).all (okB l)
def risesB (l : List Int) : Bool := upB l l.length
theorem upB_succ (l : List Int) (k : Nat) : upB l (k + 1) = (upB l k && okB l k) := by simp [upB, List.range_succ]
theorem upB_not {l : List Int} {k n : Nat} (h : okB l k = false) (hk : k < n) : upB l n = false := by
  cases e : upB l n with
  | false => rfl
  | true =>
    simp only [upB, List.all_eq_true, List.mem_range] at e
    rw [e k hk] at h; cases h
theorem upB_at {l : List Int} {n : Nat} (h : upB l n = true) {k : Nat} (hk : k < n) : okB l k = true := by
  simp only [upB, List.all_eq_true, List.mem_range] at h
  exact h k hk
theorem rises_low {l : List Int} (h : risesB l = true) : ∀ k, k < l.length → (k : Int) + 1 ≤ l.getD k 0
  | 0, hk => by
    have := upB_at h hk
    simp only [okB, Bool.and_eq_true, decide_eq_true_eq] at this
    have := this.1.1
    omega
  | k + 1, hk => by
    have h1 := rises_low h k (by omega)
    have := upB_at h hk
    simp only [okB, Bool.and_eq_true, Bool.or_eq_true, decide_eq_true_eq, Nat.add_sub_cancel] at this
    rcases this.2 with h2 | h2
    · simp at h2
    · omega
theorem rises_len {l : List Int} (h : risesB l = true) : l.length ≤ 9 := by
  rcases Nat.lt_or_ge 9 l.length with h1 | h1
  · have h2 := rises_low h 9 h1
    have := upB_at h h1
    simp only [okB, Bool.and_eq_true, decide_eq_true_eq] at this
    have := this.1.2
    omega
  · exact h1
theorem Rd.all {w : World} {a : Option Addr} {n : Nat} {l : List Int} (h : Rd w a n l) (h0 : 0 < n) : ∃ b off, a = some ⟨b, off, none⟩ ∧ ∀ j, j < n → w.cell? ⟨b, off + j, none⟩ = some (.int .i64 (l.getD j 0)) := by
  rcases h.2 with rfl | h
  · omega
  · exact h
theorem rises_any (a : Option Addr) (n c : Nat) (l : List Int) (w : World) (hR : Rd w a n l) (hb : n ≤ 9223372036854775807) : Calls Try.prog 35 #[.slice a n c] w fun e w' => e = .returned (.bool (risesB l)) ∧ w = w' := by
  have HR := Lib.hid hR
  clear hR
  go_enter Try.func35, Try.ntmps35
  go_wp2_with fail
  go_loop [7] (fun iv => ∃ k : Nat, k ≤ n ∧ iv = .int .i64 k ∧ upB l k = true) (fun iv => n - (intOf iv).toNat)
  case atStart => exact ⟨0, by omega, rfl, rfl⟩
  case round =>
    obtain ⟨k, hk, rfl, hf⟩ := hrel
    have HF := Lib.hid hf
    clear hf
    by_cases hlt : k < n
    · obtain ⟨b, off, rfl, hall⟩ := HR.out.all (by omega)
      have hc := hall k hlt
      have HA := Lib.hid hall
      have HS := Lib.hid (upB_succ l k)
      have HN : Hid (okB l k = false → risesB l = false) := by
        show _ → _
        intro h; exact upB_not h (by have := HR.out.1; omega)
      have HE : Hid (okB l k = (decide (1 ≤ l.getD k 0) && decide (l.getD k 0 ≤ 9) && (k == 0 || decide (l.getD (k - 1) 0 < l.getD k 0)))) := rfl
      clear hall
      by_cases h1 : l.getD k 0 < 1
      · have HT : Hid (risesB l = false) := HN.out (by rw [HE.out, decide_eq_false (by omega)]; rfl)
        generalize l.getD k 0 = y at *
        go_wp2
        go_ret
        exact ⟨ret_bool HT.out.symm, rfl⟩
      · by_cases h9 : 9 < l.getD k 0
        · have HT : Hid (risesB l = false) := HN.out (by rw [HE.out, decide_eq_true (show 1 ≤ l.getD k 0 by omega), decide_eq_false (show ¬ l.getD k 0 ≤ 9 by omega)]; rfl)
          generalize l.getD k 0 = y at *
          go_wp2
          go_ret
          exact ⟨ret_bool HT.out.symm, rfl⟩
        · rcases Nat.eq_zero_or_pos k with rfl | hk0
          · have HT : Hid (okB l 0 = true) := by
              show _ = _
              rw [HE.out, decide_eq_true (show 1 ≤ l.getD 0 0 by omega), decide_eq_true (show l.getD 0 0 ≤ 9 by omega)]; rfl
            generalize l.getD 0 0 = y at *
            rw [Nat.add_zero] at hc
            go_wp2
            go_round
            case rel => exact ⟨1, by omega, by go_num, by rw [HS.out, HT.out]; rfl⟩
            case measure => simp [intOf]; omega
          · obtain ⟨m, rfl⟩ : ∃ m, k = m + 1 := ⟨k - 1, by omega⟩
            have hcm := HA.out m (by omega)
            by_cases hle : l.getD (m + 1) 0 ≤ l.getD m 0
            · have HT : Hid (risesB l = false) := HN.out (by
                rw [HE.out, decide_eq_true (show 1 ≤ l.getD (m + 1) 0 by omega), decide_eq_true (show l.getD (m + 1) 0 ≤ 9 by omega), Nat.add_sub_cancel, decide_eq_false (show ¬ l.getD m 0 < l.getD (m + 1) 0 by omega)]; simp)
              generalize l.getD (m + 1) 0 = y at *
              generalize l.getD m 0 = z at *
              go_wp2
              go_ret
              exact ⟨ret_bool HT.out.symm, rfl⟩
            · have HT : Hid (okB l (m + 1) = true) := by
                show _ = _
                rw [HE.out, decide_eq_true (show 1 ≤ l.getD (m + 1) 0 by omega), decide_eq_true (show l.getD (m + 1) 0 ≤ 9 by omega), Nat.add_sub_cancel, decide_eq_true (show l.getD m 0 < l.getD (m + 1) 0 by omega)]; simp
              generalize l.getD (m + 1) 0 = y at *
              generalize l.getD m 0 = z at *
              go_wp2
              go_round
              case rel => exact ⟨m + 2, by omega, by go_num, by rw [HS.out, HT.out, HF.out]; rfl⟩
              case measure => simp [intOf]; omega
    · have HT : Hid (risesB l = true) := by
        show _ = _
        have h1 := HR.out.1
        have h2 := HF.out
        rw [show k = l.length by omega] at h2
        exact h2
      go_wp2
      go_ret
      exact ⟨ret_bool HT.out.symm, rfl⟩
theorem refrises_any (a : Option Addr) (n c : Nat) (l : List Int) (w : World) (hR : Rd w a n l) (hb : n ≤ 9223372036854775807) : Calls Try.prog 32 #[.slice a n c] w fun e w' => e = .returned (.bool (risesB l)) ∧ w = w' := by
  have HR := Lib.hid hR
  clear hR
  go_enter Try.func32, Try.ntmps32
  go_wp2_with fail
  go_loop [7] (fun iv => ∃ k : Nat, k ≤ n ∧ iv = .int .i64 k ∧ upB l k = true) (fun iv => n - (intOf iv).toNat)
  case atStart => exact ⟨0, by omega, rfl, rfl⟩
  case round =>
    obtain ⟨k, hk, rfl, hf⟩ := hrel
    have HF := Lib.hid hf
    clear hf
    by_cases hlt : k < n
    · obtain ⟨b, off, rfl, hall⟩ := HR.out.all (by omega)
      have hc := hall k hlt
      have HA := Lib.hid hall
      have HS := Lib.hid (upB_succ l k)
      have HN : Hid (okB l k = false → risesB l = false) := by
        show _ → _
        intro h; exact upB_not h (by have := HR.out.1; omega)
      have HE : Hid (okB l k = (decide (1 ≤ l.getD k 0) && decide (l.getD k 0 ≤ 9) && (k == 0 || decide (l.getD (k - 1) 0 < l.getD k 0)))) := rfl
      clear hall
      by_cases h1 : l.getD k 0 < 1
      · have HT : Hid (risesB l = false) := HN.out (by rw [HE.out, decide_eq_false (by omega)]; rfl)
        generalize l.getD k 0 = y at *
        go_wp2
        go_ret
        exact ⟨ret_bool HT.out.symm, rfl⟩
      · by_cases h9 : 9 < l.getD k 0
        · have HT : Hid (risesB l = false) := HN.out (by rw [HE.out, decide_eq_true (show 1 ≤ l.getD k 0 by omega), decide_eq_false (show ¬ l.getD k 0 ≤ 9 by omega)]; rfl)
          generalize l.getD k 0 = y at *
          go_wp2
          go_ret
          exact ⟨ret_bool HT.out.symm, rfl⟩
        · rcases Nat.eq_zero_or_pos k with rfl | hk0
          · have HT : Hid (okB l 0 = true) := by
              show _ = _
              rw [HE.out, decide_eq_true (show 1 ≤ l.getD 0 0 by omega), decide_eq_true (show l.getD 0 0 ≤ 9 by omega)]; rfl
            generalize l.getD 0 0 = y at *
            rw [Nat.add_zero] at hc
            go_wp2
            go_round
            case rel => exact ⟨1, by omega, by go_num, by rw [HS.out, HT.out]; rfl⟩
            case measure => simp [intOf]; omega
          · obtain ⟨m, rfl⟩ : ∃ m, k = m + 1 := ⟨k - 1, by omega⟩
            have hcm := HA.out m (by omega)
            by_cases hle : l.getD (m + 1) 0 ≤ l.getD m 0
            · have HT : Hid (risesB l = false) := HN.out (by
                rw [HE.out, decide_eq_true (show 1 ≤ l.getD (m + 1) 0 by omega), decide_eq_true (show l.getD (m + 1) 0 ≤ 9 by omega), Nat.add_sub_cancel, decide_eq_false (show ¬ l.getD m 0 < l.getD (m + 1) 0 by omega)]; simp)
              generalize l.getD (m + 1) 0 = y at *
              generalize l.getD m 0 = z at *
              go_wp2
              go_ret
              exact ⟨ret_bool HT.out.symm, rfl⟩
            · have HT : Hid (okB l (m + 1) = true) := by
                show _ = _
                rw [HE.out, decide_eq_true (show 1 ≤ l.getD (m + 1) 0 by omega), decide_eq_true (show l.getD (m + 1) 0 ≤ 9 by omega), Nat.add_sub_cancel, decide_eq_true (show l.getD m 0 < l.getD (m + 1) 0 by omega)]; simp
              generalize l.getD (m + 1) 0 = y at *
              generalize l.getD m 0 = z at *
              go_wp2
              go_round
              case rel => exact ⟨m + 2, by omega, by go_num, by rw [HS.out, HT.out, HF.out]; rfl⟩
              case measure => simp [intOf]; omega
    · have HT : Hid (risesB l = true) := by
        show _ = _
        have h1 := HR.out.1
        have h2 := HF.out
        rw [show k = l.length by omega] at h2
        exact h2
      go_wp2
      go_ret
      exact ⟨ret_bool HT.out.symm, rfl⟩
end Go.Proofs.Ytedifbdjcebefaa
