/- The document's majority. -/
import Derived.Test.YtbjhpifllgoffaaMaj
namespace Go.Proofs.Ytbjhpifllgoffaa
open Go Go.RowKit
set_option linter.unusedVariables false
set_option linter.unusedSimpArgs false
set_option maxRecDepth 100000
set_option maxHeartbeats 2000000
theorem bI_mem (l : List Int) (x : Int) : bI l x = true ↔ x ∈ l := by
  unfold bI
  rw [List.any_eq_true]
  constructor
  · rintro ⟨y, hy, e⟩; rw [← eq_of_beq e]; exact hy
  · exact fun h => ⟨x, h, by simp⟩
theorem fst_succ (V : List Int) (k : Nat) : fst V (k + 1) = fst V k ++ (if bI (V.take k) (V.getD k 0) then [] else [V.getD k 0]) := by
  rw [fst]
  congr 1
  by_cases h : V.getD k 0 ∈ V.take k
  · rw [if_pos h, if_pos ((bI_mem _ _).2 h)]
  · rw [if_neg h, if_neg (fun hh => h ((bI_mem _ _).1 hh))]
theorem fst_len (V : List Int) : ∀ k, (fst V k).length ≤ k
  | 0 => by simp [fst]
  | k + 1 => by
    rw [fst_succ, List.length_append]
    have := fst_len V k
    split <;> simp <;> omega
theorem refmaj_any (a : Option Addr) (n c : Nat) (V : List Int) (u : Value) (b : Option Addr) (m d : Nat) (A : List Int) (w : World) (hV : Rd w a n V) (hc : n ≤ c) (hA : Rd w b m A) (hn : n ≤ 1000) (hm : m ≤ 1000) (hu : ∃ x y z, u = .slice x y z) :
    Calls Try.prog 17 #[.agg #[.slice a n c, u], .slice b m d] w fun e w' => e = .returned (.bool (majG V (bI A))) ∧ Below w.heap.size w w' := by
  obtain ⟨ux, uy, uz, rfl⟩ := hu
  have L1 : Hid (Below w.heap.size w (w.alloc (.cells #[.slice a n c, .slice ux uy uz] 32))) := (Below.refl _ w).alloc (Nat.le_refl _) _
  have R1 := Lib.hid (hV.keep (Nat.le_refl _) L1.out)
  have R2 := Lib.hid (hA.keep (Nat.le_refl _) L1.out)
  have HL := Lib.hid hV.1
  have HC := Lib.hid hc
  have X0 : Hid ((w.alloc (.cells #[.slice a n c, .slice ux uy uz] 32)).heap[w.heap.size]? = some (.cells #[.slice a n c, .slice ux uy uz] 32 (0, 0))) := heap_alloc_new _ _
  clear hV hA hc
  go_enter Try.func17, Try.ntmps17
  go_wp2_with fail
  obtain ⟨s, hs⟩ : ∃ s, s = w.heap.size := ⟨_, rfl⟩
  rw [← hs] at X0 ⊢
  generalize w.alloc (.cells #[.slice a n c, .slice ux uy uz] 32) = w1 at *
  have c0 : w1.cell? ⟨s, 0, none⟩ = some (.slice a n c) := by simp [World.cell?, X0.out]
  clear hs
  go_loop [5, 6, 12] (fun cv nv iv => ∃ k : Nat, k ≤ n ∧ iv = .int .i64 k ∧ cv = .int .i64 ((fst V k).countP (bI A) : Nat) ∧ nv = .int .i64 ((fst V k).length : Nat)) (fun _ _ iv => n - (intOf iv).toNat)
  case atStart => exact ⟨0, by omega, rfl, rfl, rfl⟩
  case round =>
    obtain ⟨k, hk, rfl, rfl, rfl⟩ := hrel
    have hf1 := fst_len V k
    have hf2 := List.countP_le_length (p := bI A) (l := fst V k)
    by_cases hlt : k < n
    · obtain ⟨b2, off, rfl, hcell⟩ := R1.out.at hlt
      have HP := Lib.hid (R1.out.pre (Nat.le_of_lt hlt))
      have HS := Lib.hid (fst_succ V k)
      have hkc : k ≤ c := by have := HC.out; omega
      have HBN := bI A (V.getD k 0)
      generalize V.getD k 0 = y at *
      generalize fst V k = F at *
      cases hy : bI (V.take k) y
      · have HY := Lib.hid hy
        clear hy
        cases hz : bI A y
        · have HZ := Lib.hid hz
          clear hz
          have HN : Hid ((fst V (k + 1)).length = F.length + 1 ∧ (fst V (k + 1)).countP (bI A) = F.countP (bI A)) := by
            show _ ∧ _
            rw [HS.out, HY.out]; simp [List.countP_append, HZ.out]
          generalize F.countP (bI A) = q at *
          generalize F.length = t at *
          go_wp2_with fail
          refine (has_any _ k c (V.take k) y _ HP.out (by omega)).mono ?_
          rintro e w' ⟨rfl, rfl⟩
          rw [HY.out]
          go_wp2_with fail
          refine (has_any b m d A y _ R2.out hm).mono ?_
          rintro e w' ⟨rfl, rfl⟩
          rw [HZ.out]
          go_wp2_with fail
          go_round
          case rel => exact ⟨k + 1, by omega, by go_num, by rw [HN.out.2], by rw [HN.out.1]; simp⟩
          case measure => simp [intOf]; omega
        · have HZ := Lib.hid hz
          clear hz
          have HN : Hid ((fst V (k + 1)).length = F.length + 1 ∧ (fst V (k + 1)).countP (bI A) = F.countP (bI A) + 1) := by
            show _ ∧ _
            rw [HS.out, HY.out]; simp [List.countP_append, HZ.out]
          generalize F.countP (bI A) = q at *
          generalize F.length = t at *
          go_wp2_with fail
          refine (has_any _ k c (V.take k) y _ HP.out (by omega)).mono ?_
          rintro e w' ⟨rfl, rfl⟩
          rw [HY.out]
          go_wp2_with fail
          refine (has_any b m d A y _ R2.out hm).mono ?_
          rintro e w' ⟨rfl, rfl⟩
          rw [HZ.out]
          go_wp2_with fail
          go_round
          case rel => exact ⟨k + 1, by omega, by go_num, by rw [HN.out.2]; simp, by rw [HN.out.1]; simp⟩
          case measure => simp [intOf]; omega
      · have HY := Lib.hid hy
        clear hy
        have HN : Hid (fst V (k + 1) = F) := by
          show _ = _
          rw [HS.out, HY.out]; simp
        clear HS
        go_wp2_with fail
        refine (has_any _ k c (V.take k) y _ HP.out (by omega)).mono ?_
        rintro e w' ⟨rfl, rfl⟩
        rw [HY.out]
        go_wp2_with fail
        go_round
        case rel => exact ⟨k + 1, by omega, by go_num, by rw [HN.out], by rw [HN.out]⟩
        case measure => simp [intOf]; omega
    · have hkn : k = V.length := by rw [HL.out]; omega
      have HM : Hid (majG V (bI A) = decide ((((fst V k).length : Nat) : Int) / 2 < (((fst V k).countP (bI A) : Nat) : Int))) := by
        show _ = _
        rw [majG_fst, hkn]
        congr 1
        apply propext
        constructor <;> intro h <;> omega
      clear hkn
      generalize fst V k = F at *
      generalize F.countP (bI A) = q at *
      generalize F.length = t at *
      have htd : (t : Int).tdiv 2 = (t : Int) / 2 := Int.tdiv_eq_ediv_of_nonneg (by omega)
      go_wp2_with fail
      go_ret
      exact ⟨ret_bool HM.out.symm, L1.out⟩
end Go.Proofs.Ytbjhpifllgoffaa
