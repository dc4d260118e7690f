/- May they be the members: the code's and the document's. -/
import Derived.Test.YtedifbdjcebefaaBegin
import Derived.Test.YtedifbdjcebefaaShelf
namespace Go.Proofs.Ytedifbdjcebefaa
open Go Go.RowKit Go.Shelf Go.Sort
set_option linter.unusedVariables false
set_option linter.unusedSimpArgs false
set_option maxRecDepth 100000
set_option maxHeartbeats 1000000
def meetB (V L : List Int) : Bool := V.any (bI L)
def goodB (V L : List Int) : Bool := decide (V ≠ []) && risesB V && risesB L && !meetB V L
theorem gives34 (bx : Nat) (V : Value) (b : Option Addr) (m d : Nat) (L : List Int) (x : Int) (W : World) (hC : CB W bx V (.slice b m d)) (hL : Rd W b m L) (hm : m ≤ 1000) :
    FnGives Try.prog 34 #[.pointer (some ⟨bx, 0, none⟩)] #[.int .i64 x] (.bool (bI L x)) W := by
  show Calls Try.prog 34 #[.int .i64 x, .pointer (some ⟨bx, 0, none⟩)] W _
  have hc1 := hC.c1
  have HL := Lib.hid hL
  clear hL hC
  go_enter Try.func34, Try.ntmps34
  go_wp2_with (go_at_call 31; refine (contains_any b m d L x _ HL.out hm).mono ?_; rintro e w' ⟨rfl, rfl⟩)
  go_ret
  exact ⟨rfl, 0, rfl⟩
theorem cf_any (a : Option Addr) (n c : Nat) (V : List Int) (bx : Nat) (u : Value) (b : Option Addr) (m d : Nat) (L : List Int) (w : World) (hV : Rd w a n V) (hC : CB w bx u (.slice b m d)) (hL : Rd w b m L) (hn : n ≤ 1000) (hm : m ≤ 1000) :
    Calls Try.prog 36 #[.slice a n c, .func (.func 34) #[] #[.pointer (some ⟨bx, 0, none⟩)]] w fun e w' => e = .returned (.bool (meetB V L)) ∧ Below w.heap.size w w' := by
  rcases Nat.eq_zero_or_pos n with rfl | hpos
  · refine (AnyE.slices_ContainsFunc_empty Try.laysCF a c _ w).mono ?_
    rintro e w' ⟨rfl, rfl⟩
    have : V = [] := List.eq_nil_of_length_eq_zero hV.1
    subst this
    exact ⟨rfl, Below.refl _ _⟩
  · obtain ⟨blk, off, rfl, hall⟩ := hV.all hpos
    have eg : ∀ args w, (callFunc 34 args).run Try.prog w = .ok (.enter 34 args) w := enters_of Try.func34 (by kernel_rfl) rfl
    have hl := hV.1
    refine (AnyE.slices_ContainsFunc Try.laysCF (Value.int .i64) (bI L) 34 #[.pointer (some ⟨bx, 0, none⟩)] eg blk off n c V w (fun W x hb => gives34 bx u b m d L x W (hC.below (Nat.le_refl _) hb) (hL.keep (Nat.le_refl _) hb) hm) (by omega) (by omega) (fun j hj => by
      rw [hall j (by omega), getElem!_pos V j hj, List.getD_eq_getElem?_getD, List.getElem?_eq_getElem hj]; rfl)).mono ?_
    rintro e w' ⟨rfl, q, rfl⟩
    rw [List.take_of_length_le (by omega)]
    exact ⟨rfl, below_drewN' (Below.refl _ _) q⟩
theorem good_any (a : Option Addr) (n c : Nat) (V : List Int) (b : Option Addr) (m d : Nat) (L : List Int) (w : World) (hV : Rd w a n V) (hL : Rd w b m L) (hn : n ≤ 9223372036854775807) (hm : m ≤ 9223372036854775807) :
    Calls Try.prog 22 #[.agg #[.slice a n c, .slice b m d]] w fun e w' => e = .returned (.bool (goodB V L)) ∧ Below w.heap.size w w' := by
  have L1 : Hid (Below w.heap.size w (w.alloc (.cells #[.slice a n c, .slice b m d] 24))) := (Below.refl _ w).alloc (by simp) _
  have C1 : Hid (CB (w.alloc (.cells #[.slice a n c, .slice b m d] 24)) w.heap.size (.slice a n c) (.slice b m d)) := CB.new w _ _
  have R1 := Lib.hid (hV.keep (Nat.le_refl _) L1.out)
  have R2 := Lib.hid (hL.keep (Nat.le_refl _) L1.out)
  have HG : Hid (goodB V L = (decide (V ≠ []) && risesB V && risesB L && !meetB V L)) := rfl
  have HV := Lib.hid hV.1
  clear hV hL
  go_enter Try.func22, Try.ntmps22
  rcases Nat.eq_zero_or_pos n with rfl | hpos
  · have h0 : Hid (goodB V L = false) := by
      show _ = _
      have : V = [] := List.eq_nil_of_length_eq_zero HV.out
      rw [HG.out, this]; rfl
    go_wp2_with fail
    go_ret
    exact ⟨ret_bool h0.out.symm, L1.out⟩
  · have HN : Hid (decide (V ≠ []) = true) := by
      show _ = _
      rw [decide_eq_true_iff]
      rintro rfl
      have := HV.out
      simp at this; omega
    have hpos' : (0 : Int) < (n : Int) := by omega
    go_wp2_with fail
    refine (rises_any a n c V _ R1.out hn).mono ?_
    rintro e w1 ⟨rfl, rfl⟩
    cases h1 : risesB V
    · have h0 : Hid (goodB V L = false) := by
        show _ = _
        rw [HG.out, h1]; simp
      go_wp2_with fail
      go_ret
      exact ⟨ret_bool h0.out.symm, L1.out⟩
    have H1 := Lib.hid h1
    clear h1
    go_wp2_with fail
    refine (rises_any b m d L _ R2.out hm).mono ?_
    rintro e w1 ⟨rfl, rfl⟩
    cases h2 : risesB L
    · have h0 : Hid (goodB V L = false) := by
        show _ = _
        rw [HG.out, h2]; simp
      go_wp2_with fail
      go_ret
      exact ⟨ret_bool h0.out.symm, L1.out⟩
    have H2 := Lib.hid h2
    clear h2
    go_wp2_with fail
    refine (cf_any a n c V _ _ b m d L _ R1.out C1.out R2.out (by have := rises_len H1.out; have := R1.out.1; omega) (by have := rises_len H2.out; have := R2.out.1; omega)).mono ?_
    rintro e w1 ⟨rfl, hb⟩
    have h0 : Hid (goodB V L = !meetB V L) := by
      show _ = _
      rw [HG.out, HN.out, H1.out, H2.out]; simp
    have HB := Lib.hid (L1.out.trans (hb.mono (by simp)))
    clear hb
    generalize meetB V L = q at *
    go_wp2_with fail
    go_ret
    exact ⟨ret_bool h0.out.symm, HB.out⟩
theorem meetB_take (V L : List Int) (k : Nat) (h : k < V.length) : meetB (V.take (k + 1)) L = (meetB (V.take k) L || bI L (V.getD k 0)) := by
  rw [take_snoc V k h]; simp [meetB]
theorem meetB_le {V L : List Int} {k : Nat} (h : k < V.length) (hb : bI L (V.getD k 0) = true) : meetB V L = true := by
  simp only [meetB, List.any_eq_true]
  exact ⟨V.getD k 0, by rw [List.getD_eq_getElem?_getD, List.getElem?_eq_getElem h]; simp, hb⟩
theorem refgood_any (a : Option Addr) (n c : Nat) (V : List Int) (b : Option Addr) (m d : Nat) (L : List Int) (w : World) (hV : Rd w a n V) (hL : Rd w b m L) (hn : n ≤ 9223372036854775807) (hm : m ≤ 9223372036854775807) :
    Calls Try.prog 20 #[.agg #[.slice a n c, .slice b m d]] w fun e w' => e = .returned (.bool (goodB V L)) ∧ Below w.heap.size w w' := by
  have L1 : Hid (Below w.heap.size w (w.alloc (.cells #[.slice a n c, .slice b m d] 24))) := (Below.refl _ w).alloc (by simp) _
  have C1 : Hid (CB (w.alloc (.cells #[.slice a n c, .slice b m d] 24)) w.heap.size (.slice a n c) (.slice b m d)) := CB.new w _ _
  have R1 := Lib.hid (hV.keep (Nat.le_refl _) L1.out)
  have R2 := Lib.hid (hL.keep (Nat.le_refl _) L1.out)
  have HG : Hid (goodB V L = (decide (V ≠ []) && risesB V && risesB L && !meetB V L)) := rfl
  have HV := Lib.hid hV.1
  have HL := Lib.hid hL.1
  clear hV hL
  go_enter Try.func20, Try.ntmps20
  go_wp2_with fail
  refine (refrises_any a n c V _ R1.out hn).mono ?_
  rintro e w1 ⟨rfl, rfl⟩
  cases h1 : risesB V
  · have h0 : Hid (goodB V L = false) := by
      show _ = _
      rw [HG.out, h1]; simp
    go_wp2_with fail
    go_ret
    exact ⟨ret_bool h0.out.symm, L1.out⟩
  have H1 := Lib.hid h1
  clear h1
  go_wp2_with fail
  refine (refrises_any b m d L _ R2.out hm).mono ?_
  rintro e w1 ⟨rfl, rfl⟩
  cases h2 : risesB L
  · have h0 : Hid (goodB V L = false) := by
      show _ = _
      rw [HG.out, h2]; simp
    go_wp2_with fail
    go_ret
    exact ⟨ret_bool h0.out.symm, L1.out⟩
  have H2 := Lib.hid h2
  clear h2
  rcases Nat.eq_zero_or_pos n with rfl | hpos
  · have h0 : Hid (goodB V L = false) := by
      show _ = _
      have : V = [] := List.eq_nil_of_length_eq_zero HV.out
      rw [HG.out, this]; rfl
    go_wp2_with fail
    go_ret
    exact ⟨ret_bool h0.out.symm, L1.out⟩
  have HN : Hid (goodB V L = !meetB V L) := by
    show _ = _
    have : decide (V ≠ []) = true := by
      rw [decide_eq_true_iff]
      rintro rfl
      have := HV.out
      simp at this; omega
    rw [HG.out, H1.out, H2.out, this]; simp
  have hn9 : n ≤ 9 := by have := rises_len H1.out; have := R1.out.1; omega
  have hm9 : m ≤ 9 := by have := rises_len H2.out; have := R2.out.1; omega
  have hpos' : ((n : Int) == 0) = false := by simp; omega
  have hc0 := C1.out.c0
  have hc1 := C1.out.c1
  go_wp2_with fail
  generalize (w.alloc (.cells #[.slice a n c, .slice b m d] 24)) = w0 at *
  go_loop [26] (fun iv => ∃ k : Nat, k ≤ n ∧ iv = .int .i64 k ∧ meetB (V.take k) L = false) (fun iv => n - (intOf iv).toNat)
  case atStart => exact ⟨0, by omega, rfl, rfl⟩
  case round =>
    obtain ⟨k, hk, rfl, hf⟩ := hrel
    have HF := Lib.hid hf
    clear hf
    by_cases hlt : k < n
    · obtain ⟨blk, off, rfl, hc⟩ := R1.out.at hlt
      have HS := Lib.hid (meetB_take V L k (by rw [HV.out]; exact hlt))
      have HT : Hid (bI L (V.getD k 0) = true → meetB V L = true) := by
        show _ → _
        exact meetB_le (by rw [HV.out]; exact hlt)
      generalize V.getD k 0 = y at *
      go_wp2_with fail
      go_loop [33] (fun iv => ∃ j : Nat, j ≤ m ∧ iv = .int .i64 j ∧ bI (L.take j) y = false) (fun iv => m - (intOf iv).toNat)
      case atStart => exact ⟨0, by omega, rfl, rfl⟩
      case round =>
        obtain ⟨j, hj, rfl, hf⟩ := hrel
        have HF2 := Lib.hid hf
        clear hf
        by_cases hlt2 : j < m
        · obtain ⟨blk2, off2, rfl, hcj⟩ := R2.out.at hlt2
          have S2 := Lib.hid (take_snoc L j (by rw [HL.out]; exact hlt2))
          have S3 := Lib.hid (bI_snoc (L.take j) (L.getD j 0) y)
          have HM : Hid (L.getD j 0 = y → bI L y = true) := by
            show _ → _
            intro h
            simp only [bI, List.any_eq_true]
            refine ⟨y, ?_, by simp⟩
            have h1 := HL.out
            rw [← h, List.getD_eq_getElem?_getD, List.getElem?_eq_getElem (by omega)]; simp
          generalize L.getD j 0 = z at *
          by_cases hzy : z = y
          · have h0 : Hid (goodB V L = false) := by
              show _ = _
              rw [HN.out, HT.out (HM.out hzy)]; rfl
            have hyz : (y == z) = true := by simp [hzy]
            clear hzy
            go_wp2_with fail
            go_ret
            exact ⟨ret_bool h0.out.symm, L1.out⟩
          · have hyz : (y == z) = false := by simp; exact fun h => hzy h.symm
            have hzy' : Hid ((z == y) = false) := by show _ = _; simpa using hzy
            clear hzy
            go_wp2_with fail
            go_round
            case rel => exact ⟨j + 1, by omega, by go_num, by rw [S2.out, S3.out, HF2.out, hzy'.out]; rfl⟩
            case measure => simp [intOf]; omega
        · have h9 : Hid (meetB (V.take (k + 1)) L = false) := by
            show _ = _
            have h1 := HF2.out
            have h2 := HL.out
            rw [List.take_of_length_le (by omega)] at h1
            rw [HS.out, HF.out, h1]; rfl
          go_wp2_with fail
          go_round
          case rel => exact ⟨k + 1, by omega, by go_num, h9.out⟩
          case measure => simp [intOf]; omega
    · have h0 : Hid (goodB V L = true) := by
        show _ = _
        have h1 := HF.out
        have h2 := HV.out
        rw [List.take_of_length_le (by omega)] at h1
        rw [HN.out, h1]; rfl
      go_wp2_with fail
      go_ret
      exact ⟨ret_bool h0.out.symm, L1.out⟩
end Go.Proofs.Ytedifbdjcebefaa
