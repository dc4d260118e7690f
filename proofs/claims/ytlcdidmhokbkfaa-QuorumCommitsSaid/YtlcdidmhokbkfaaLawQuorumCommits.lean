/- The law 'QuorumCommits' answers true at every input, and leaves its arguments as they were. (The frame was written by a program, after the kit's own frames; no condition beside the statement's own.) -/
import Derived.Test.YtlcdidmhokbkfaaRows
import Derived.WalkKit
import Derived.ProofKit
import Derived.OpenShut
import Derived.Deep.RegionHeld3
import Derived.Deep.DeepCutAuto
import Derived.ShutString
import Derived.ChangeOld
import Derived.Below
import Derived.Test.YtlcdidmhokbkfaaLives
import Derived.Test.YtlcdidmhokbkfaaApp
namespace Go.Proofs.Ytlcdidmhokbkfaa.quorumCommits
open Go.ChangeShapes Go.WideShapes Go.ChangeAt Go.RowKit Go.Proofs.Ytlcdidmhokbkfaa
open Go.ChangeMaps (open_string shut_string)
set_option linter.unusedVariables false
set_option linter.unusedSimpArgs false
set_option maxRecDepth 100000

theorem own : ownKnob Try.prog.godebug = none := by kernel_rfl
theorem laidOut : laidOutB Try.prog = true := by kernel_rfl

set_option maxHeartbeats 1000000 in
theorem walk (w : World) (s0 : Option Addr) (n0 c0 : Nat) (z0 : List Int) (r0 : IsRow w s0 n0 c0 z0) :
    Calls Try.prog 4 #[.slice s0 n0 c0] w fun e w' => e = .returned (.bool true) ∧ Below w.heap.size w w' := by
  have hlen := r0.len
  have HR := Lib.hid r0
  clear r0
  by_cases hbig : 300 < n0
  · have hd : decide ((300 : Int) < (n0 : Int)) = true := decide_eq_true (by omega)
    go_enter Try.func4, Try.ntmps4
    go_wp2_with (go_at_call 13; refine (lives_any _).mono ?_; rintro e w' ⟨rfl, hB⟩)
    go_ret
    exact ⟨rfl, hB⟩
  · have hd : decide ((300 : Int) < (n0 : Int)) = false := decide_eq_false (by omega)
    by_cases h0 : n0 = 0
    · subst h0
      cases s0
      all_goals
        go_enter Try.func4, Try.ntmps4
        go_wp2_with (go_at_call 14; refine (commit_none _ _ _).mono ?_; rintro e w' ⟨rfl, rfl⟩)
        have B0 : Hid (Below w.heap.size w (w.alloc (.cells #[] 3))) := (Below.refl _ w).alloc (Nat.le_refl _) _
        revert B0
        generalize w.alloc (.cells #[] 3) = w1
        intro B0
        go_loopw [17] (fun iv wx => iv = .int .i64 0 ∧ Below w.heap.size w wx) (fun _ _ => 0)
        case atStart => exact ⟨rfl, B0.out⟩
        case round =>
          obtain ⟨rfl, hB0⟩ := hrel
          have HB0 := Lib.hid hB0
          clear hB0
          go_wp2_with (first | (go_at_call 15; refine (refcommit_none _ _ _).mono ?_; rintro e w' ⟨rfl, rfl⟩) | (go_at_call 13; refine (lives_any _).mono ?_; rintro e w' ⟨rfl, hB⟩))
          go_ret
          exact ⟨rfl, HB0.out.trans (hB.mono HB0.out.size)⟩
    · obtain ⟨b, off, rfl, hall, hlt⟩ := HR.out.whole (by omega)
      have hl : (z0.take n0).length = n0 := by simp; omega
      have HALL := Lib.hid hall
      have HL := Lib.hid hl
      have hsrc : Hid (∀ j u, ((z0.take n0).map (Value.int .i64))[j]? = some u → (w.alloc (.cells #[] 3)).cell? (Addr.add ⟨b, off, none⟩ j) = some u) := fun j u hj => by
        have hjn : j < n0 := by have := (List.getElem?_eq_some_iff.1 hj).1; simp at this; omega
        have hadd : (⟨b, off, none⟩ : Addr).add j = ⟨b, off + j, none⟩ := by unfold Addr.add; split <;> simp_all
        rw [hadd, ((Below.refl w.heap.size w).alloc (Nat.le_refl _) (.cells #[] 3)).cell (p := ⟨b, off + j, none⟩) hlt, HALL.out j (by omega)]
        simp [List.getElem?_eq_getElem (show j < z0.length by omega), List.getElem?_take_of_lt hjn] at hj
        rw [← hj]; simp [List.getD_eq_getElem?_getD, List.getElem?_eq_getElem (show j < z0.length by omega)]
      obtain ⟨i0, hi, hz0, hz1, hz2⟩ := info_parts info3
      clear hall hl
      go_enter Try.func4, Try.ntmps4
      go_upto_region 4 with (at_builtin; refine wpList_append_own _ rfl _ _ 26 rfl w.heap.size 3 i0 (.int .i64 0) 1 8 Try.underlying26 hi hz0 hz1 hz2 rfl (by decide) _ 0 [] rfl (own_empty w) ⟨b, off, none⟩ n0 c0 ((z0.take n0).map (Value.int .i64)) rfl (by rw [List.length_map, HL.out]; omega) hsrc.out (fun u hu => by obtain ⟨x, _, rfl⟩ := List.mem_map.1 hu; rfl) (by simp only [maxLen]; omega) (by omega) (by simp) ?_; intro v' w1 hown' hgrow _)
      rw [Nat.zero_add, List.nil_append] at hown'
      obtain ⟨g, cap, rfl, hl2, hbg, hgl, hcg⟩ := own_ints hown' (by omega)
      have B1 : Below w.heap.size w w1 := ((Below.refl _ w).alloc (Nat.le_refl _) _).grown hgrow (by simp) (fun j ej => own_blk (own_empty w) ej)
      have HCG := Lib.hid hcg
      have C2 : Hid (∀ j, j < z0.length → w1.cell? ⟨b, off + j, none⟩ = some (.int .i64 (z0.getD j 0))) := fun j hj => (B1.cell (p := ⟨b, off + j, none⟩) hlt).trans (HALL.out j hj)
      have HB1 := Lib.hid B1
      have HGL := Lib.hid hgl
      have HC := Lib.hid (commit_any g 0 n0 cap (z0.take n0) w1 (by omega) (by omega) (by omega) hcg hgl)
      clear hown' hgrow hcg B1 hgl hsrc
      go_wp2_with fail
      refine HC.out.mono ?_
      rintro e w2 ⟨rfl, hB2⟩
      have ht : (z0.take n0).take n0 = z0.take n0 := by rw [List.take_take, Nat.min_self]
      rw [ht]
      have HB2 : Hid (Below w.heap.size w w2) := HB1.out.trans (hB2.mono HB1.out.size)
      have D1 : Hid (∀ j, j < n0 → w2.cell? ⟨g, 0 + j, none⟩ = some (.int .i64 ((z0.take n0).getD j 0))) := fun j hj => (hB2.cell (p := ⟨g, 0 + j, none⟩) HGL.out).trans (HCG.out j (by rw [HL.out]; exact hj))
      have D2 : Hid (∀ j, j < z0.length → w2.cell? ⟨b, off + j, none⟩ = some (.int .i64 (z0.getD j 0))) := fun j hj => (hB2.cell (p := ⟨b, off + j, none⟩) (by have := HB1.out.size; show b < w1.heap.size; omega)).trans (C2.out j hj)
      clear hB2 ht C2 HCG HC
      go_wp2_with fail
      go_loopw [17] (fun iv wx => ∃ k : Nat, k ≤ n0 ∧ iv = .int .i64 k ∧ (∀ j, j < n0 → wx.cell? ⟨g, 0 + j, none⟩ = some (.int .i64 ((z0.take n0).getD j 0))) ∧ (∀ j, j < z0.length → wx.cell? ⟨b, off + j, none⟩ = some (.int .i64 (z0.getD j 0))) ∧ Below w.heap.size w wx) (fun iv _ => n0 - (intOf iv).toNat)
      case atStart => exact ⟨0, by omega, rfl, D1.out, D2.out, HB2.out⟩
      case round =>
        clear D1 D2 HB2
        obtain ⟨k, hk, rfl, d1, d2, hB⟩ := hrel
        have D1 := Lib.hid d1
        have D2 := Lib.hid d2
        have HB := Lib.hid hB
        clear d1 d2 hB
        by_cases hlt2 : k < n0
        · have e1 := D1.out k hlt2
          have e2 := D2.out k (by omega)
          have ex : (z0.take n0).getD k 0 = z0.getD k 0 := by rw [List.getD_eq_getElem?_getD, List.getD_eq_getElem?_getD, List.getElem?_take_of_lt hlt2]
          rw [ex, Nat.zero_add] at e1
          generalize z0.getD k 0 = x at *
          have hxx : (x != x) = false := by simp
          clear ex
          go_upto_region 8 with fail
          go_region
          all_goals
            go_wp2
            go_roundw
            case rel => exact ⟨k + 1, by omega, by go_num, fun j hj => D1.out j hj, fun j hj => D2.out j hj, HB.out.drew⟩
            case measure => simp [intOf]; omega
        · obtain rfl : k = n0 := by omega
          have HRC := Lib.hid (refcommit_any b off k c0 z0 wr (by omega) hlen (by omega) D2.out)
          go_wp2_with (first | (go_at_call 15; refine HRC.out.mono ?_; rintro e w' ⟨rfl, rfl⟩) | (go_at_call 13; refine (lives_any _).mono ?_; rintro e w' ⟨rfl, hB⟩))
          go_ret
          exact ⟨rfl, HB.out.trans (hB.mono HB.out.size)⟩

theorem lifted (os : Os) (started : os.Started) (H : Type) (enc : TypeId × Value → H) :
    ReturnsInHanded {} Try.checked os 4 .any (Rows.quorumCommitsSpec.pre6 enc Try.prog Try.f4 Rows.quorumCommitsRow.domain false) (Rows.quorumCommitsSpec.post enc Try.prog Try.f4 false true false false) := by
  refine returnsInHanded_of_change (C := Try.checked) own started (by kernel_rfl) Try.func4
    (ChangeSpec.witness6 (enc := enc) (C := Try.checked) false ⟨#[], #[.slice none 0 0], []⟩ 8 (by kernel_rfl) (by kernel_rfl) (by kernel_rfl) (by kernel_rfl)) ?_
  intro W base args ds gs before hval0 hW hcnd _
  have hval : ∀ (j : Nat) t v, Try.f4.params[j]? = some t → args[j]? = some v → Value.okWide Try.prog W .any base t v := hval0
  have hW' := hW
  obtain ⟨p, q, hA0, hV, rfl, hfz, hnd⟩ := hW
  have hA : DataW.TrodAll enc Try.prog W 0 (fun _ => true) true Try.f4.params.toList args.toList ds p := hA0
  rw [Try.params4] at hA hval
  obtain ⟨v0, vs0, d0, ds0, p0, q0, hargs, rfl, rfl, h0, r0⟩ := trodAll_cons hA
  obtain ⟨rfl, rfl, rfl⟩ := trodAll_nil r0
  obtain rfl : args = #[v0] := by cases args; simp_all
  obtain ⟨rfl, rfl⟩ := trodVars_none hV
  obtain ⟨s0, n0, c0, rfl⟩ := okWide_slice Try.underlying26 (hval 0 26 v0 rfl rfl)
  have k0 := h0
  have lt0 : ∀ x ∈ p0, x.block < W.heap.size := by obtain ⟨m, hm⟩ := k0; exact DataW.trod_lt m _ _ _ hm
  obtain ⟨z0, w0⟩ : ∃ zs, IsRow W s0 n0 c0 zs := by
    obtain ⟨fuel, hf⟩ := h0
    rcases open_ints Try.underlying26 Try.underlying3 (by kernel_rfl) hf with ⟨hcs, _⟩ | ⟨x, l, c, zs, hcs, _, hl, hm, hz, _, hcell, hwz⟩
    · simp [Value.cells] at hcs
      obtain ⟨rfl, rfl, rfl⟩ := hcs
      exact ⟨[], .inl ⟨rfl, rfl, rfl, rfl⟩⟩
    · simp [Value.cells] at hcs
      obtain ⟨rfl, rfl, rfl⟩ := hcs
      exact ⟨zs, .inr ⟨_, rfl, hl, hm, by simpa using hz, hcell, hwz⟩⟩
  clear hA0 hval0
  try simp only [List.append_nil] at hW'
  refine (walk W s0 n0 c0 z0 w0).mono fun e W' ⟨he, hg⟩ => ?_
  subst he
  exact ⟨_, rfl, _, _, _, [], _, [], hW', (trodAll_cons_mk (shut_bool Try.underlying4 _) trodAll_mk0), (trodAll_cons_mk (Below.trod laidOut (by kernel_rfl) (of_decide_eq_true (by kernel_rfl)) k0 hg lt0) trodAll_mk0), rfl, hg.frame _, fun h => by cases h⟩

theorem over : Rows.quorumCommitsRow.holds Try.pinned (OpenSpec.ofChange Rows.quorumCommitsSpec) :=
  OpenClaim.holds_of_wide 4 Try.f4 rfl rfl rfl rfl rfl rfl rfl ⟨rfl, rfl, rfl, rfl, rfl⟩ rfl rfl rfl rfl rfl (by kernel_rfl) Try.func4 (by kernel_rfl)
    (of_decide_eq_true (by kernel_rfl)) (by unfold Func.isWrapper; first | (rw [if_pos (by decide +kernel)]; kernel_rfl) | (rw [if_neg (by decide +kernel)]; exact ⟨rfl, rfl⟩))
    (fun os started H enc _ => lifted os started H enc)

/-- ████ THE STATEMENT ████ -/
theorem proved : Rows.QuorumCommitsSaid :=
  over
#print axioms proved
end Go.Proofs.Ytlcdidmhokbkfaa.quorumCommits
