/- Has, Contains, Meet, and the reference's Meet. -/
import Derived.Test.YtlcdidmhokbkfaaRow
import Derived.Test.YtlcdidmhokbkfaaLives
import Derived.WalkMore
namespace Go.Proofs.Ytlcdidmhokbkfaa
open Go Go.RowKit Go.Shelf Go.Sort
set_option linter.unusedVariables false
set_option linter.unusedSimpArgs false
set_option maxRecDepth 100000
set_option maxHeartbeats 1000000
theorem ret_bool {a b : Bool} (h : a = b) : Ending.returned (.bool a) = .returned (.bool b) := by rw [h]
/-- A list of n elements that a slice leads to. -/
def Rd (w : World) (a : Option Addr) (n : Nat) (l : List Int) : Prop :=
  l.length = n ∧ (n = 0 ∨ ∃ b off, a = some ⟨b, off, none⟩ ∧ ∀ j, j < n → w.cell? ⟨b, off + j, none⟩ = some (.int .i64 (l.getD j 0)))
theorem Rd.at {w : World} {a : Option Addr} {n : Nat} {l : List Int} (h : Rd w a n l) {k : Nat} (hk : k < n) : ∃ b off, a = some ⟨b, off, none⟩ ∧ w.cell? ⟨b, off + k, none⟩ = some (.int .i64 (l.getD k 0)) := by
  rcases h.2 with rfl | ⟨b, off, e, hc⟩
  · omega
  · exact ⟨b, off, e, hc k hk⟩
theorem Rd.pre {w : World} {a : Option Addr} {n : Nat} {l : List Int} (h : Rd w a n l) {k : Nat} (hk : k ≤ n) : Rd w a k (l.take k) := by
  refine ⟨by have := h.1; simp; omega, ?_⟩
  rcases h.2 with rfl | ⟨b, off, e, hc⟩
  · exact .inl (by omega)
  · exact .inr ⟨b, off, e, fun j hj => by rw [hc j (by omega), List.getD_eq_getElem?_getD, List.getD_eq_getElem?_getD, List.getElem?_take_of_lt hj]⟩
theorem IsRow.rd {w : World} {a : Option Addr} {n c : Nat} {z : List Int} (h : IsRow w a n c z) : Rd w a n (z.take n) := by
  have hl := h.len
  refine ⟨by simp; omega, ?_⟩
  by_cases h0 : n = 0
  · exact .inl h0
  · obtain ⟨b, off, e, hc, _⟩ := h.whole (by omega)
    exact .inr ⟨b, off, e, fun j hj => by rw [hc j (by omega), List.getD_eq_getElem?_getD, List.getD_eq_getElem?_getD, List.getElem?_take_of_lt hj]⟩
theorem has_any (a : Option Addr) (n c : Nat) (l : List Int) (x : Int) (w : World) (hR : Rd w a n l) (hb : n ≤ 1000) : Calls Try.prog 18 #[.slice a n c, .int .i64 x] w fun e w' => e = .returned (.bool (bI l x)) ∧ w = w' := by
  have HR := Lib.hid hR
  clear hR
  go_enter Try.func18, Try.ntmps18
  go_wp2_with fail
  go_loop [9] (fun iv => ∃ k : Nat, k ≤ n ∧ iv = .int .i64 k ∧ bI (l.take k) x = false) (fun iv => n - (intOf iv).toNat)
  case atStart => exact ⟨0, by omega, rfl, rfl⟩
  case round =>
    obtain ⟨k, hk, rfl, hf⟩ := hrel
    have HF := Lib.hid hf
    clear hf
    by_cases hlt : k < n
    · obtain ⟨b, off, rfl, hc⟩ := HR.out.at hlt
      have HS := Lib.hid (take_snoc l k (by have := HR.out.1; omega))
      have S1 := Lib.hid (bI_snoc (l.take k) (l.getD k 0) x)
      have HM : Hid (l.getD k 0 ∈ l) := by
        show _ ∈ _
        have h1 := HR.out.1
        rw [List.getD_eq_getElem?_getD, List.getElem?_eq_getElem (by omega)]; simp
      generalize l.getD k 0 = y at *
      cases hyx : (y == x)
      · go_wp2
        go_round
        case rel => exact ⟨k + 1, by omega, by go_num, by rw [HS.out, S1.out, HF.out, hyx]; rfl⟩
        case measure => simp [intOf]; omega
      · have HT : Hid (bI l x = true) := by
          show _ = _
          simp only [bI, List.any_eq_true]
          exact ⟨y, HM.out, hyx⟩
        go_wp2
        go_ret
        exact ⟨ret_bool HT.out.symm, rfl⟩
    · have HT : Hid (bI l x = false) := by
        show _ = _
        have := HF.out
        rwa [List.take_of_length_le (by have := HR.out.1; omega)] at this
      go_wp2
      go_ret
      exact ⟨ret_bool HT.out.symm, rfl⟩
theorem index_any (a : Option Addr) (n c : Nat) (l : List Int) (x : Int) (w : World) (hR : Rd w a n l) (hb : n ≤ 1000) : Calls Try.prog 24 #[.slice a n c, .int .i64 x] w fun e w' => ∃ r : Int, e = .returned (.int .i64 r) ∧ decide (0 ≤ r) = bI l x ∧ w = w' := by
  have HR := Lib.hid hR
  clear hR
  go_enter Try.func24, Try.ntmps24
  go_wp2_with fail
  go_loop [8] (fun iv => ∃ k : Nat, k ≤ n ∧ iv = .int .i64 k ∧ bI (l.take k) x = false) (fun iv => n - (intOf iv).toNat)
  case atStart => exact ⟨0, by omega, rfl, rfl⟩
  case round =>
    obtain ⟨k, hk, rfl, hf⟩ := hrel
    have HF := Lib.hid hf
    clear hf
    by_cases hlt : k < n
    · obtain ⟨b, off, rfl, hc⟩ := HR.out.at hlt
      have HS := Lib.hid (take_snoc l k (by have := HR.out.1; omega))
      have S1 := Lib.hid (bI_snoc (l.take k) (l.getD k 0) x)
      have HM : Hid (l.getD k 0 ∈ l) := by
        show _ ∈ _
        have h1 := HR.out.1
        rw [List.getD_eq_getElem?_getD, List.getElem?_eq_getElem (by omega)]; simp
      generalize l.getD k 0 = y at *
      cases hyx : (x == y)
      · have HN : Hid ((y == x) = false) := by
          show _ = _
          rw [beq_eq_false_iff_ne] at hyx ⊢
          exact fun h => hyx h.symm
        go_wp2
        go_round
        case rel => exact ⟨k + 1, by omega, by go_num, by rw [HS.out, S1.out, HF.out, HN.out]; rfl⟩
        case measure => simp [intOf]; omega
      · have HT : Hid (bI l x = true) := by
          show _ = _
          simp only [bI, List.any_eq_true]
          refine ⟨y, HM.out, ?_⟩
          have := eq_of_beq hyx
          subst this; simp
        go_wp2
        go_ret
        exact ⟨k, rfl, by rw [HT.out]; simp, rfl⟩
    · have HT : Hid (bI l x = false) := by
        show _ = _
        have := HF.out
        rwa [List.take_of_length_le (by have := HR.out.1; omega)] at this
      go_wp2
      go_ret
      exact ⟨-1, rfl, by rw [HT.out]; rfl, rfl⟩
theorem contains_any (a : Option Addr) (n c : Nat) (l : List Int) (x : Int) (w : World) (hR : Rd w a n l) (hb : n ≤ 1000) : Calls Try.prog 21 #[.slice a n c, .int .i64 x] w fun e w' => e = .returned (.bool (bI l x)) ∧ w = w' := by
  have C := Lib.hid (index_any a n c l x w hR hb)
  clear hR
  go_enter Try.func21, Try.ntmps21
  go_wp2_with fail
  refine C.out.mono ?_
  rintro e w' ⟨r, rfl, hr, rfl⟩
  have HRR := Lib.hid hr
  clear hr
  go_wp2
  go_ret
  exact ⟨ret_bool HRR.out, rfl⟩
def mt (a b o : List Int) : Bool := o.any fun n => bI a n && bI b n
theorem mt_snoc (a b o : List Int) (x : Int) : mt a b (o ++ [x]) = (mt a b o || (bI a x && bI b x)) := by simp [mt]
theorem mt_comm (a b o : List Int) : mt a b o = mt b a o := by unfold mt; congr 1; funext n; exact Bool.and_comm _ _
theorem mt_yes {a b o : List Int} {x : Int} (hx : x ∈ o) (ha : bI a x = true) (hb : bI b x = true) : mt a b o = true := by
  simp only [mt, List.any_eq_true]; exact ⟨x, hx, by rw [ha, hb]; rfl⟩
theorem refmeet_any (sa sb so : Option Addr) (na nb no ca cb co : Nat) (a b o : List Int) (w : World) (ra : Rd w sa na a) (rb : Rd w sb nb b) (ro : Rd w so no o) (ha : na ≤ 1000) (hb : nb ≤ 1000) (ho : no ≤ 1000) :
    Calls Try.prog 17 #[.slice sa na ca, .slice sb nb cb, .slice so no co] w fun e w' => e = .returned (.bool (mt a b o)) ∧ w = w' := by
  have RA := Lib.hid ra
  have RB := Lib.hid rb
  have RO := Lib.hid ro
  clear ra rb ro
  go_enter Try.func17, Try.ntmps17
  go_wp2_with fail
  go_loop [11] (fun iv => ∃ k : Nat, k ≤ no ∧ iv = .int .i64 k ∧ mt a b (o.take k) = false) (fun iv => no - (intOf iv).toNat)
  case atStart => exact ⟨0, by omega, rfl, rfl⟩
  case round =>
    obtain ⟨k, hk, rfl, hf⟩ := hrel
    have HF := Lib.hid hf
    clear hf
    by_cases hlt : k < no
    · obtain ⟨bb, off, rfl, hc⟩ := RO.out.at hlt
      have HS := Lib.hid (take_snoc o k (by have := RO.out.1; omega))
      have S1 := Lib.hid (mt_snoc a b (o.take k) (o.getD k 0))
      have HM : Hid (o.getD k 0 ∈ o) := by
        show _ ∈ _
        have h1 := RO.out.1
        rw [List.getD_eq_getElem?_getD, List.getElem?_eq_getElem (by omega)]; simp
      generalize o.getD k 0 = y at *
      have CA := Lib.hid (has_any sa na ca a y w RA.out ha)
      have CB := Lib.hid (has_any sb nb cb b y w RB.out hb)
      go_wp2_with fail
      refine CA.out.mono ?_
      rintro e w' ⟨rfl, rfl⟩
      cases hya : bI a y
      · go_wp2
        go_round
        case rel => exact ⟨k + 1, by omega, by go_num, by rw [HS.out, S1.out, HF.out, hya]; rfl⟩
        case measure => simp [intOf]; omega
      · go_wp2_with fail
        refine CB.out.mono ?_
        rintro e w' ⟨rfl, rfl⟩
        cases hyb : bI b y
        · go_wp2
          go_round
          case rel => exact ⟨k + 1, by omega, by go_num, by rw [HS.out, S1.out, HF.out, hya, hyb]; rfl⟩
          case measure => simp [intOf]; omega
        · have HT := Lib.hid (mt_yes HM.out hya hyb)
          go_wp2
          go_ret
          exact ⟨ret_bool HT.out.symm, rfl⟩
    · have HT : Hid (mt a b o = false) := by
        show _ = _
        have := HF.out
        rwa [List.take_of_length_le (by have := RO.out.1; omega)] at this
      go_wp2
      go_ret
      exact ⟨ret_bool HT.out.symm, rfl⟩
theorem meet_any (sa sb so : Option Addr) (na nb no ca cb co : Nat) (a b o : List Int) (w : World) (ra : Rd w sa na a) (rb : Rd w sb nb b) (ro : Rd w so no o) (ha : na ≤ 1000) (hb : nb ≤ 1000) (ho : no ≤ 1000) :
    Calls Try.prog 16 #[.slice sa na ca, .slice sb nb cb, .slice so no co] w fun e w' => e = .returned (.bool (mt a b o)) ∧ w = w' := by
  have RA := Lib.hid ra
  have RB := Lib.hid rb
  have RO := Lib.hid ro
  clear ra rb ro
  go_enter Try.func16, Try.ntmps16
  go_wp2
  go_step3
  go_wp2
  go_step3
  go_wp2_with fail
  go_loop [7, 12] (fun sv iv => ∃ k : Nat, k ≤ no ∧ iv = .int .i64 k ∧ sv = .bool false ∧ mt a b (o.take k) = false) (fun _ iv => no - (intOf iv).toNat)
  case atStart => exact ⟨0, by omega, rfl, rfl, rfl⟩
  case round =>
    obtain ⟨k, hk, rfl, rfl, hf⟩ := hrel
    have HF := Lib.hid hf
    clear hf
    by_cases hlt : k < no
    · obtain ⟨bb, off, rfl, hc⟩ := RO.out.at hlt
      have HS := Lib.hid (take_snoc o k (by have := RO.out.1; omega))
      have S1 := Lib.hid (mt_snoc a b (o.take k) (o.getD k 0))
      have HM : Hid (o.getD k 0 ∈ o) := by
        show _ ∈ _
        have h1 := RO.out.1
        rw [List.getD_eq_getElem?_getD, List.getElem?_eq_getElem (by omega)]; simp
      generalize o.getD k 0 = y at *
      have CA := Lib.hid (contains_any sa na ca a y w RA.out ha)
      have CB := Lib.hid (contains_any sb nb cb b y w RB.out hb)
      go_wp2_with fail
      refine CA.out.mono ?_
      rintro e w' ⟨rfl, rfl⟩
      cases hya : bI a y
      · go_wp2
        go_round
        case rel => exact ⟨k + 1, by omega, by go_num, rfl, by rw [HS.out, S1.out, HF.out, hya]; rfl⟩
        case measure => simp [intOf]; omega
      · go_wp2_with fail
        refine CB.out.mono ?_
        rintro e w' ⟨rfl, rfl⟩
        cases hyb : bI b y
        · go_wp2
          go_round
          case rel => exact ⟨k + 1, by omega, by go_num, rfl, by rw [HS.out, S1.out, HF.out, hya, hyb]; rfl⟩
          case measure => simp [intOf]; omega
        · have HT := Lib.hid (mt_yes HM.out hya hyb)
          go_wp2
          rw [Exit.noGoto_ret]
          go_wp2
          go_ret
          exact ⟨ret_bool HT.out.symm, rfl⟩
    · have HT : Hid (mt a b o = false) := by
        show _ = _
        have := HF.out
        rwa [List.take_of_length_le (by have := RO.out.1; omega)] at this
      go_wp2
      go_ret
      exact ⟨ret_bool HT.out.symm, rfl⟩
def cB (a o : List Int) : Nat := o.countP fun n => bI a n
theorem cB_snoc (a o : List Int) (x : Int) : cB a (o ++ [x]) = cB a o + if bI a x = true then 1 else 0 := by simp [cB, List.countP_append, List.countP_cons]
theorem cB_le (a o : List Int) : cB a o ≤ o.length := List.countP_le_length
theorem both (a b : List Int) : ∀ o : List Int, o.length < cB a o + cB b o → mt a b o = true
  | [], h => by simp [cB] at h
  | x :: o, h => by
    by_cases hx : bI a x = true ∧ bI b x = true
    · exact mt_yes (List.mem_cons_self ..) hx.1 hx.2
    · have h2 : o.length < cB a o + cB b o := by
        simp only [cB, List.countP_cons, List.length_cons] at h ⊢
        by_cases h3 : bI a x = true
        · have h4 : ¬ bI b x = true := fun h5 => hx ⟨h3, h5⟩
          rw [if_pos h3, if_neg h4] at h; omega
        · rw [if_neg h3] at h
          by_cases h4 : bI b x = true
          · rw [if_pos h4] at h; omega
          · rw [if_neg h4] at h; omega
      have := both a b o h2
      simp only [mt, List.any_cons] at this ⊢
      rw [this]; simp
end Go.Proofs.Ytlcdidmhokbkfaa
