/- The law 'QuorumMost' answers true at every input, and leaves its arguments as they were. (The frame was written by a program, after the kit's own frames; no condition beside the statement's own.) -/
import Derived.Test.YtlcdidmhokbkfaaRows
import Derived.WalkKit
import Derived.ProofKit
import Derived.OpenShut
import Derived.Deep.RegionHeld3
import Derived.Deep.DeepCutAuto
import Derived.ShutString
import Derived.ChangeOld
import Derived.Below
import Derived.Test.YtlcdidmhokbkfaaLives
import Derived.Test.YtlcdidmhokbkfaaRow
namespace Go.Proofs.Ytlcdidmhokbkfaa.quorumMost
open Go.ChangeShapes Go.WideShapes Go.ChangeAt Go.RowKit Go.Proofs.Ytlcdidmhokbkfaa
open Go.ChangeMaps (open_string shut_string)
set_option linter.unusedVariables false
set_option linter.unusedSimpArgs false
set_option maxRecDepth 100000

theorem own : ownKnob Try.prog.godebug = none := by kernel_rfl
theorem laidOut : laidOutB Try.prog = true := by kernel_rfl

set_option maxHeartbeats 1000000 in
theorem walk (w : World) (s0 : Option Addr) (n0 c0 : Nat) (z0 : List Int) (r0 : IsRow w s0 n0 c0 z0) :
    Calls Try.prog 5 #[.slice s0 n0 c0] w fun e w' => e = .returned (.bool true) ∧ Below w.heap.size w w' := by
  have hlen := r0.len
  have HR := Lib.hid r0
  clear r0
  by_cases h0 : n0 = 0
  · have hp : ((n0 : Int) == 0) = true := by simp [h0]
    go_enter Try.func5, Try.ntmps5
    go_wp2_with (first | (go_at_call 14; refine (commit_none _ 0 _).mono ?_; rintro e w' ⟨rfl, rfl⟩) | (go_at_call 13; refine (lives_any _).mono ?_; rintro e w' ⟨rfl, hB⟩))
    go_ret
    exact ⟨rfl, hB⟩
  · have hp : ((n0 : Int) == 0) = false := by simp; omega
    by_cases hbig : 300 < n0
    · have hd : decide ((300 : Int) < (n0 : Int)) = true := decide_eq_true (by omega)
      go_enter Try.func5, Try.ntmps5
      go_wp2_with (first | (go_at_call 14; refine (commit_none _ 0 _).mono ?_; rintro e w' ⟨rfl, rfl⟩) | (go_at_call 13; refine (lives_any _).mono ?_; rintro e w' ⟨rfl, hB⟩))
      go_ret
      exact ⟨rfl, hB⟩
    · have hd : decide ((300 : Int) < (n0 : Int)) = false := decide_eq_false (by omega)
      obtain ⟨b, off, rfl, hall, hlt⟩ := HR.out.whole (by omega)
      have hl : (z0.take n0).length = n0 := by simp; omega
      have HIN := Lib.hid (cmt_in (z0.take n0) (by omega))
      have HLE := Lib.hid (cmt_least (z0.take n0) (by omega))
      have HAB := Lib.hid (cmt_above (z0.take n0) (by omega))
      rw [hl] at HLE HAB
      have HC := Lib.hid (fun w (hc) (hb) => commit_any b off n0 c0 z0 w (by omega) hlen (by omega) hc hb)
      have HALL := Lib.hid hall
      have HJ : Hid (maj (n0 : Int) = ((n0 / 2 + 1 : Nat) : Int)) := by show _ = _; unfold maj; split <;> omega
      clear hall
      go_enter Try.func5, Try.ntmps5
      go_wp2_with fail
      refine (HC.out _ HALL.out hlt).mono ?_
      rintro e w3 ⟨rfl, hB3⟩
      generalize hcm : cmt (z0.take n0) = m at *
      have HB3 := Lib.hid hB3
      have hcells : Hid (∀ j, j < z0.length → w3.cell? ⟨b, off + j, none⟩ = some (.int .i64 (z0.getD j 0))) := fun j hj => (hB3.cell (p := ⟨b, off + j, none⟩) hlt).trans (HALL.out j hj)
      clear hB3 hcm
      go_wp2_with fail
      go_loop [4, 5, 6, 27] (fun iv lv av xv => ∃ k : Nat, k ≤ n0 ∧ xv = .int .i64 k ∧ iv = .bool (bI (z0.take k) m) ∧ lv = .int .i64 (cL (z0.take k) m : Nat) ∧ av = .int .i64 (cA (z0.take k) m : Nat)) (fun _ _ _ xv => n0 - (intOf xv).toNat)
      case atStart => exact ⟨0, by omega, rfl, rfl, rfl, rfl⟩
      case round =>
        obtain ⟨k, hk, rfl, rfl, rfl, rfl⟩ := hrel
        have l1 := cL_le (z0.take k) m
        have l2 := cA_le (z0.take k) m
        have l3 : (z0.take k).length ≤ k := List.length_take_le _ _
        by_cases hlt2 : k < n0
        · have hc := hcells.out k (by omega)
          have HS := Lib.hid (take_snoc z0 k (by omega))
          have S1 := Lib.hid (bI_snoc (z0.take k) (z0.getD k 0) m)
          have S2 := Lib.hid (cL_snoc (z0.take k) (z0.getD k 0) m)
          have S3 := Lib.hid (cA_snoc (z0.take k) (z0.getD k 0) m)
          generalize z0.getD k 0 = x at *
          have hw1 : IntKind.i64.wrap ((cL (z0.take k) m : Int) + 1) = (cL (z0.take k) m : Int) + 1 := IntWalk.i64_in _ (by omega)
          have hw2 : IntKind.i64.wrap ((cA (z0.take k) m : Int) + 1) = (cA (z0.take k) m : Int) + 1 := IntWalk.i64_in _ (by omega)
          cases hbi : bI (z0.take k) m
          all_goals
            go_wp2
            all_goals
              go_round
              case rel =>
                refine ⟨k + 1, by omega, by go_num, ?_, ?_, ?_⟩
                · rw [HS.out, S1.out, hbi]; simp
                · rw [HS.out, S2.out]; first | (rw [if_pos (by omega)]; go_num) | (rw [if_neg (by omega)]; rfl)
                · rw [HS.out, S3.out]; first | (rw [if_pos (by omega)]; go_num) | (rw [if_neg (by omega)]; rfl)
              case measure => simp [intOf]; omega
        · obtain rfl : k = n0 := by omega
          rw [HIN.out]
          have hle : decide (((k / 2 + 1 : Nat) : Int) ≤ (cL (z0.take k) m : Int)) = true := decide_eq_true (by have := HLE.out; omega)
          have hab : decide ((cA (z0.take k) m : Int) < ((k / 2 + 1 : Nat) : Int)) = true := decide_eq_true (by have := HAB.out; omega)
          have hle' := HLE.out
          have hab' := HAB.out
          generalize k / 2 + 1 = q at *
          go_wp2_with (first | (go_at_call 9; refine (maj_any _ (by omega) _).mono ?_; rintro e w' ⟨rfl, rfl⟩; rw [HJ.out]) | (go_at_call 13; refine (lives_any _).mono ?_; rintro e w' ⟨rfl, hB⟩))
          go_ret
          exact ⟨rfl, HB3.out.trans (hB.mono HB3.out.size)⟩

theorem lifted (os : Os) (started : os.Started) (H : Type) (enc : TypeId × Value → H) :
    ReturnsInHanded {} Try.checked os 5 .any (Rows.quorumMostSpec.pre6 enc Try.prog Try.f5 Rows.quorumMostRow.domain false) (Rows.quorumMostSpec.post enc Try.prog Try.f5 false true false false) := by
  refine returnsInHanded_of_change (C := Try.checked) own started (by kernel_rfl) Try.func5
    (ChangeSpec.witness6 (enc := enc) (C := Try.checked) false ⟨#[], #[.slice none 0 0], []⟩ 8 (by kernel_rfl) (by kernel_rfl) (by kernel_rfl) (by kernel_rfl)) ?_
  intro W base args ds gs before hval0 hW hcnd _
  have hval : ∀ (j : Nat) t v, Try.f5.params[j]? = some t → args[j]? = some v → Value.okWide Try.prog W .any base t v := hval0
  have hW' := hW
  obtain ⟨p, q, hA0, hV, rfl, hfz, hnd⟩ := hW
  have hA : DataW.TrodAll enc Try.prog W 0 (fun _ => true) true Try.f5.params.toList args.toList ds p := hA0
  rw [Try.params5] at hA hval
  obtain ⟨v0, vs0, d0, ds0, p0, q0, hargs, rfl, rfl, h0, r0⟩ := trodAll_cons hA
  obtain ⟨rfl, rfl, rfl⟩ := trodAll_nil r0
  obtain rfl : args = #[v0] := by cases args; simp_all
  obtain ⟨rfl, rfl⟩ := trodVars_none hV
  obtain ⟨s0, n0, c0, rfl⟩ := okWide_slice Try.underlying26 (hval 0 26 v0 rfl rfl)
  have k0 := h0
  have lt0 : ∀ x ∈ p0, x.block < W.heap.size := by obtain ⟨m, hm⟩ := k0; exact DataW.trod_lt m _ _ _ hm
  obtain ⟨z0, w0⟩ : ∃ zs, IsRow W s0 n0 c0 zs := by
    obtain ⟨fuel, hf⟩ := h0
    rcases open_ints Try.underlying26 Try.underlying3 (by kernel_rfl) hf with ⟨hcs, _⟩ | ⟨x, l, c, zs, hcs, _, hl, hm, hz, _, hcell, hwz⟩
    · simp [Value.cells] at hcs
      obtain ⟨rfl, rfl, rfl⟩ := hcs
      exact ⟨[], .inl ⟨rfl, rfl, rfl, rfl⟩⟩
    · simp [Value.cells] at hcs
      obtain ⟨rfl, rfl, rfl⟩ := hcs
      exact ⟨zs, .inr ⟨_, rfl, hl, hm, by simpa using hz, hcell, hwz⟩⟩
  clear hA0 hval0
  try simp only [List.append_nil] at hW'
  refine (walk W s0 n0 c0 z0 w0).mono fun e W' ⟨he, hg⟩ => ?_
  subst he
  exact ⟨_, rfl, _, _, _, [], _, [], hW', (trodAll_cons_mk (shut_bool Try.underlying4 _) trodAll_mk0), (trodAll_cons_mk (Below.trod laidOut (by kernel_rfl) (of_decide_eq_true (by kernel_rfl)) k0 hg lt0) trodAll_mk0), rfl, hg.frame _, fun h => by cases h⟩

theorem over : Rows.quorumMostRow.holds Try.pinned (OpenSpec.ofChange Rows.quorumMostSpec) :=
  OpenClaim.holds_of_wide 5 Try.f5 rfl rfl rfl rfl rfl rfl rfl ⟨rfl, rfl, rfl, rfl, rfl⟩ rfl rfl rfl rfl rfl (by kernel_rfl) Try.func5 (by kernel_rfl)
    (of_decide_eq_true (by kernel_rfl)) (by unfold Func.isWrapper; first | (rw [if_pos (by decide +kernel)]; kernel_rfl) | (rw [if_neg (by decide +kernel)]; exact ⟨rfl, rfl⟩))
    (fun os started H enc _ => lifted os started H enc)

/-- ████ THE STATEMENT ████ -/
theorem proved : Rows.QuorumMostSaid :=
  over
#print axioms proved
end Go.Proofs.Ytlcdidmhokbkfaa.quorumMost
