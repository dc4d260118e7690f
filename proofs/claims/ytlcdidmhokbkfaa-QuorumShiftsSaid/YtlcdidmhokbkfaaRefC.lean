/- The reference's Commit. -/
import Derived.Test.YtlcdidmhokbkfaaRow
namespace Go.Proofs.Ytlcdidmhokbkfaa
open Go Go.RowKit Go.Shelf Go.Sort
set_option linter.unusedVariables false
set_option linter.unusedSimpArgs false
set_option maxRecDepth 100000
set_option maxHeartbeats 1000000
/-- What the outer loop keeps behind k elements. -/
def Inv (l : List Int) (k : Nat) (bst : Int) (f : Bool) : Prop :=
  (f = true → l.length / 2 + 1 ≤ cL l bst) ∧ ∀ j, j < k → l.length / 2 + 1 ≤ cL l (l.getD j 0) → f = true ∧ l.getD j 0 ≤ bst
theorem Inv.zero (l : List Int) : Inv l 0 0 false := ⟨(fun h => by cases h), (fun j hj => by omega)⟩
theorem Inv.take {l : List Int} {k : Nat} {bst : Int} {f : Bool} (h : Inv l k bst f) (hm : l.length / 2 + 1 ≤ cL l (l.getD k 0)) (hb : f = false ∨ bst < l.getD k 0) : Inv l (k + 1) (l.getD k 0) true := by
  refine ⟨fun _ => hm, fun j hj hc => ⟨rfl, ?_⟩⟩
  rcases Nat.lt_or_eq_of_le (Nat.lt_succ_iff.1 hj) with h1 | rfl
  · obtain ⟨e1, e2⟩ := h.2 j h1 hc
    rcases hb with hb | hb
    · rw [hb] at e1; cases e1
    · omega
  · exact Int.le_refl _
theorem Inv.keep {l : List Int} {k : Nat} {bst : Int} {f : Bool} (h : Inv l k bst f) (hb : cL l (l.getD k 0) < l.length / 2 + 1 ∨ (f = true ∧ l.getD k 0 ≤ bst)) : Inv l (k + 1) bst f := by
  refine ⟨h.1, fun j hj hc => ?_⟩
  rcases Nat.lt_or_eq_of_le (Nat.lt_succ_iff.1 hj) with h1 | rfl
  · exact h.2 j h1 hc
  · rcases hb with hb | hb
    · omega
    · exact hb
theorem Inv.best {l : List Int} {bst : Int} {f : Bool} (h0 : 0 < l.length) (h : Inv l l.length bst f) : bst = cmt l := by
  have h1 := cmt_least l h0
  have h2 := cmt_above l h0
  have h3 := cmt_in l h0
  simp only [bI, List.any_eq_true, beq_iff_eq] at h3
  obtain ⟨x, hx, rfl⟩ := h3
  obtain ⟨j, hj, e⟩ := List.getElem_of_mem hx
  have e' : l.getD j 0 = cmt l := by rw [List.getD_eq_getElem?_getD, List.getElem?_eq_getElem hj]; exact e
  obtain ⟨f1, f2⟩ := h.2 j hj (by rw [e']; exact h1)
  rw [e'] at f2
  have f3 := h.1 f1
  rcases Int.lt_or_eq_of_le f2 with f4 | f4
  · have : cL l bst ≤ cA l (cmt l) := by
      unfold cL cA
      apply List.countP_mono_left
      intro a _ ha
      simp at ha ⊢
      omega
    omega
  · exact f4.symm
theorem refcommit_none (a : Option Addr) (c : Nat) (w : World) : Calls Try.prog 15 #[.slice a 0 c] w fun e w' => e = .returned (.int .i64 0) ∧ w = w' := by
  go_enter Try.func15, Try.ntmps15
  go_wp2_with fail
  go_loop [3, 4, 12] (fun bv fv iv => bv = .int .i64 0 ∧ iv = .int .i64 0) (fun _ _ _ => 0)
  case atStart => exact ⟨rfl, rfl⟩
  case round =>
    obtain ⟨rfl, rfl⟩ := hrel
    go_wp2
    go_ret
    exact ⟨rfl, rfl⟩
theorem refcommit_any (b off n c : Nat) (zs : List Int) (w : World) (hn : 0 < n) (hz : n ≤ zs.length) (hbig : n ≤ 1000) (hc : ∀ j, j < zs.length → w.cell? ⟨b, off + j, none⟩ = some (.int .i64 (zs.getD j 0))) :
    Calls Try.prog 15 #[.slice (some ⟨b, off, none⟩) n c] w fun e w' => e = .returned (.int .i64 (cmt (zs.take n))) ∧ w = w' := by
  have hl : (zs.take n).length = n := by simp; omega
  have HL := Lib.hid hl
  have HC := Lib.hid hc
  have HJ : Hid (maj (n : Int) = ((n / 2 + 1 : Nat) : Int)) := by show _ = _; unfold maj; split <;> omega
  have hget : ∀ j, j < n → (zs.take n).getD j 0 = zs.getD j 0 := fun j hj => by
    rw [List.getD_eq_getElem?_getD, List.getD_eq_getElem?_getD, List.getElem?_take_of_lt hj]
  have HG := Lib.hid hget
  clear hc hl hget
  go_enter Try.func15, Try.ntmps15
  go_wp2_with fail
  go_loop [3, 4, 12] (fun bv fv iv => ∃ (k : Nat) (bst : Int) (f : Bool), k ≤ n ∧ iv = .int .i64 k ∧ bv = .int .i64 bst ∧ fv = .bool f ∧ Inv (zs.take n) k bst f) (fun _ _ iv => n - (intOf iv).toNat)
  case atStart => exact ⟨0, 0, false, by omega, rfl, rfl, rfl, Inv.zero _⟩
  case round =>
    obtain ⟨k, bst, f, hk, rfl, rfl, rfl, hI⟩ := hrel
    have HI := Lib.hid hI
    clear hI
    by_cases hlt : k < n
    · have hck := HC.out k (by omega)
      have HX := Lib.hid (HG.out k hlt)
      obtain ⟨x, hx⟩ : ∃ x, x = zs.getD k 0 := ⟨_, rfl⟩
      rw [← hx] at hck HX
      clear hx
      go_wp2_with fail
      go_loop [7, 18] (fun nv iv => ∃ i : Nat, i ≤ n ∧ iv = .int .i64 i ∧ nv = .int .i64 (cL (zs.take i) x : Nat)) (fun _ iv => n - (intOf iv).toNat)
      case atStart => exact ⟨0, by omega, rfl, rfl⟩
      case round =>
        obtain ⟨i, hi, rfl, rfl⟩ := hrel
        have l1 := cL_le (zs.take i) x
        have l3 : (zs.take i).length ≤ i := List.length_take_le _ _
        by_cases hlt2 : i < n
        · have hci := HC.out i (by omega)
          have HS := Lib.hid (take_snoc zs i (by omega))
          have S2 := Lib.hid (cL_snoc (zs.take i) (zs.getD i 0) x)
          generalize zs.getD i 0 = y at *
          have hw1 : IntKind.i64.wrap ((cL (zs.take i) x : Int) + 1) = (cL (zs.take i) x : Int) + 1 := IntWalk.i64_in _ (by omega)
          go_wp2
          all_goals
            go_round
            case rel =>
              refine ⟨i + 1, by omega, by go_num, ?_⟩
              rw [HS.out, S2.out]; first | (rw [if_pos (by omega)]; go_num) | (rw [if_neg (by omega)]; rfl)
            case measure => simp [intOf]; omega
        · obtain rfl : i = n := by omega
          generalize hcl : cL (zs.take i) x = cnt at *
          have HCL := Lib.hid hcl
          clear hcl
          have hq : (zs.take i).length / 2 + 1 = i / 2 + 1 := by rw [HL.out]
          have HQ := Lib.hid hq
          generalize i / 2 + 1 = q at *
          clear hq
          cases f
          all_goals
            go_wp2_with (go_at_call 10; refine (refmaj_any _ (by omega) _).mono ?_; rintro e w' ⟨rfl, rfl⟩; rw [HJ.out])
            all_goals
              go_round
              case rel =>
                first
                  | (have h := HI.out.take (by rw [HX.out, HCL.out, HQ.out]; omega) (by rw [HX.out]; first | exact .inl rfl | exact .inr (by omega))
                     rw [HX.out] at h
                     exact ⟨k + 1, x, true, by omega, by go_num, rfl, rfl, h⟩)
                  | (have h := HI.out.keep (by rw [HX.out, HCL.out, HQ.out]; first | exact .inl (by omega) | exact .inr ⟨rfl, by omega⟩)
                     exact ⟨k + 1, bst, _, by omega, by go_num, rfl, rfl, h⟩)
              case measure => simp [intOf]; omega
    · obtain rfl : k = n := by omega
      have HB := Lib.hid (Inv.best (by rw [HL.out]; exact hn) (by rw [HL.out]; exact HI.out))
      go_wp2
      go_ret
      exact ⟨ret_int HB.out, rfl⟩
end Go.Proofs.Ytlcdidmhokbkfaa
