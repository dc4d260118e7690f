/- The law 'QueueActs' answers true at every input, and leaves its arguments as they were. (The frame was written by a program, after the kit's own frames; no condition beside the statement's own.) -/
import Derived.Test.YtbjhpifllgoffaaRows
import Derived.WalkKit
import Derived.ProofKit
import Derived.OpenShut
import Derived.Deep.RegionHeld3
import Derived.Deep.DeepCutAuto
import Derived.ShutString
import Derived.ChangeOld
import Derived.Below
import Derived.SizedLaws
import Derived.Test.YtbjhpifllgoffaaActP
namespace Go.Proofs.Ytbjhpifllgoffaa.queueActs
open Go.ChangeShapes Go.WideShapes Go.ChangeAt Go.RowKit Go.Proofs.Ytbjhpifllgoffaa
open Go.ChangeMaps (open_string shut_string)
set_option linter.unusedVariables false
set_option linter.unusedSimpArgs false
set_option maxRecDepth 100000

theorem own : ownKnob Try.prog.godebug = none := by kernel_rfl
theorem laidOut : laidOutB Try.prog = true := by kernel_rfl

set_option maxHeartbeats 4000000 in
theorem walk (w : World) (a0 : Int) (w0 : (Lit.int .i64 a0).wf = true) (s1 : Option Addr) (n1 c1 : Nat) (z1 : List Int) (r1 : IsRow w s1 n1 c1 z1) :
    Calls Try.prog 3 #[.int .i64 a0, .slice s1 n1 c1] w fun e w' => e = .returned (.bool true) ∧ Below w.heap.size w w' := by
  have W0 := Lib.hid w0
  have RV := Lib.hid r1.rd
  have HWF : Hid (∀ x ∈ z1, (Lit.int .i64 x).wf = true) := by
    rcases r1 with ⟨_, _, _, h⟩ | ⟨_, _, _, _, _, _, h⟩
    · rw [h]; intro x hx; cases hx
    · exact h
  clear r1 w0
  by_cases hm : a0 < 1 ∨ 10000 < a0
  · have C := Lib.hid (new_none a0 w hm)
    by_cases h1 : a0 < 1
    · clear hm
      go_enter Try.func3, Try.ntmps3
      go_wp2_with (first | (go_at_call 8; refine C.out.mono ?_; rintro e w1 ⟨rfl, rfl⟩) | (go_at_call 9; refine (lives_any _).mono ?_; rintro e w2 ⟨rfl, hB⟩; have HB := Lib.hid hB; clear hB))
      go_ret
      exact ⟨rfl, HB.out⟩
    · have h2 : 10000 < a0 := by omega
      clear hm
      go_enter Try.func3, Try.ntmps3
      go_wp2_with (first | (go_at_call 8; refine C.out.mono ?_; rintro e w1 ⟨rfl, rfl⟩) | (go_at_call 9; refine (lives_any _).mono ?_; rintro e w2 ⟨rfl, hB⟩; have HB := Lib.hid hB; clear hB))
      go_ret
      exact ⟨rfl, HB.out⟩
  obtain ⟨M, rfl⟩ : ∃ M : Nat, a0 = M := ⟨a0.toNat, by omega⟩
  have h1 : decide ((M : Int) < 1) = false := decide_eq_false (by omega)
  have h2 : decide ((10000 : Int) < (M : Int)) = false := decide_eq_false (by omega)
  have m1 : 1 ≤ M := by omega
  have m2 : M ≤ 10000 := by omega
  clear hm
  obtain ⟨s, hs⟩ : ∃ s, s = w.heap.size := ⟨_, rfl⟩
  by_cases hl : 2000 < n1
  · have h3 : decide ((2000 : Int) < (n1 : Int)) = true := decide_eq_true (by omega)
    go_enter Try.func3, Try.ntmps3
    go_wp2_with fail
    refine (qnew_at M w m1 m2).mono ?_
    rintro e w1 ⟨rfl, hQ, hB, hz⟩
    have HB := Lib.hid hB
    clear hQ hB hz
    go_wp2_with fail
    refine (lives_any _).mono ?_
    rintro e w2 ⟨rfl, hB⟩
    have HL := Lib.hid (HB.out.trans (hB.mono HB.out.size))
    clear hB
    go_wp2_with fail
    go_ret
    exact ⟨rfl, HL.out⟩
  have h3 : decide ((2000 : Int) < (n1 : Int)) = false := decide_eq_false (by omega)
  have HS := Lib.hid hs
  go_enter Try.func3, Try.ntmps3
  go_wp2_with fail
  refine (qnew_at M w m1 m2).mono ?_
  rintro e w1 ⟨rfl, hQ, hB, hz⟩
  rw [← hs] at hQ hB ⊢
  have HQ := Lib.hid hQ
  have HB := Lib.hid hB
  clear hQ hB hz hs
  go_wp2_with fail
  go_loopw [6, 8, 9, 10, 11, 33] (fun lv _ _ _ _ iv wr => ∃ (k : Nat) (xs : List Int) (v : Value), k ≤ n1 ∧ iv = .int .i64 k ∧ lv = v ∧ QA wr s M xs v k ∧ Below s w wr) (fun _ _ _ _ _ iv _ => n1 - (intOf iv).toNat)
  case atStart => exact ⟨0, [], _, by omega, rfl, rfl, ⟨HQ.out, by simp, Win.nil _ _ _ _, fun j hj => by simp [Value.ownBlock] at hj, by simp⟩, HB.out⟩
  case round =>
    obtain ⟨k, xs, v, hk, rfl, rfl, hA, hB⟩ := hrel
    obtain ⟨hQ, hlM, hW, ho, hlk⟩ := hA
    have HQ2 := Lib.hid hQ
    have HW := Lib.hid hW
    have HO := Lib.hid ho
    have HB2 := Lib.hid hB
    clear hQ hW ho hB
    have HRr : Hid (Rd wr s1 n1 (z1.take n1)) := RV.out.keep (by rw [← HS.out]; exact Nat.le_refl _) HB2.out
    have hslt : s + 1 < wr.heap.size := HQ2.out.lt
    by_cases hlt : k < n1
    · have d4 : decide ((k : Int) < (n1 : Int)) = true := decide_eq_true (by omega)
      have d4' : decide (k < n1) = true := decide_eq_true hlt
      obtain ⟨gb, go, rfl, hcell⟩ := HRr.out.at hlt
      generalize (z1.take n1).getD k 0 = y at *
      by_cases hy : y < 0
      · have d5 : decide (y < 0) = true := decide_eq_true hy
        rcases xs with _ | ⟨x, xs⟩
        · obtain ⟨la, lc, rfl⟩ := HW.out.slice
          simp only [List.length_nil] at hlM hlk HW HO ⊢
          go_wp2_with fail
          refine (pop_no _ _ _ _ HQ2.out).mono ?_
          rintro e w2 ⟨rfl, rfl⟩
          go_wp2_with fail
          refine (qlen_at _ _ _ _ _ HQ2.out).mono ?_
          rintro e w2 ⟨rfl, rfl⟩
          rw [List.length_nil]
          go_wp2_with fail
          go_roundw
          case rel => exact ⟨k + 1, [], _, by omega, by go_num, rfl, ⟨HQ2.out, by simp, HW.out, HO.out, by simp⟩, HB2.out⟩
          case measure => simp [intOf]; omega
        · obtain ⟨g, off, cap, rfl, hbg, hnc, hc⟩ := HW.out.cell (by simp)
          have e0 := hc 0 (.int .i64 x) rfl
          rw [Nat.add_zero] at e0
          clear hc hnc
          simp only [List.length_cons] at hlM hlk HW HO ⊢
          obtain ⟨a2, hcut, hW2, ho2⟩ := win_cut (T := 22) Try.underlying22 size22 HW.out
          have HW2 := Lib.hid hW2
          have HO2 : Hid (∀ j, (Value.slice a2 xs.length (cap - 1)).ownBlock = some j → s + 2 ≤ j) := by
            show ∀ j, _
            intro j hj; rw [ho2] at hj; exact HO.out j hj
          clear hW2 ho2
          go_wp2_with fail
          refine (pop_at _ _ _ _ _ _ HQ2.out).mono ?_
          rintro e w2 ⟨rfl, hQ3, hK3⟩
          have HQ3 := Lib.hid hQ3
          have HB3 : Hid (Below s w w2) := HB2.out.trans (hK3.below (by omega) (fun j _ e => by omega))
          have e0' := kept_cell hK3 e0 (by show ¬ g = s; omega)
          have HW3 := Lib.hid (HW2.out.blocks hK3 fun j hj e => by have := HO2.out j hj; omega)
          clear hQ3 hK3 e0
          go_wp2_with fail
          refine (qlen_at _ _ _ _ _ HQ3.out).mono ?_
          rintro e w3 ⟨rfl, rfl⟩
          go_wp2_with fail
          go_roundw
          case rel => exact ⟨k + 1, xs, _, by omega, by go_num, rfl, ⟨HQ3.out, by omega, by simpa using HW3.out, HO2.out, by omega⟩, HB3.out⟩
          case measure => simp [intOf]; omega
      · have d5 : decide (y < 0) = false := decide_eq_false hy
        by_cases hf : xs.length < M
        · have d6 : decide (xs.length < M) = true := decide_eq_true hf
          have d7 : decide ((xs.length : Int) < (M : Int)) = true := decide_eq_true (by omega)
          obtain ⟨la, lc, rfl⟩ := HW.out.slice
          obtain ⟨i0, hi, hz0, hz1, hz2⟩ := info_parts Try.info3
          have h63 : xs.length + 1 ≤ maxLen := by simp only [maxLen]; omega
          have h64 : (xs.length + 1) * 8 ≤ 140737488355328 := by omega
          go_wp2_with fail
          refine (push_at _ _ _ _ _ _ HQ2.out hf).mono ?_
          rintro e w2 ⟨rfl, hQ3, hK3⟩
          have HQ3 := Lib.hid hQ3
          have HB3 : Hid (Below s w w2) := HB2.out.trans (hK3.below (by omega) (fun j _ e => by omega))
          have HW3 := Lib.hid (HW.out.blocks hK3 fun j hj e => by have := HO.out j hj; omega)
          have hs2 := hK3.size
          clear hQ3 hK3
          have KEY : Hid (∀ v' w', Win w' (s + 2) 3 1 v' (xs.length + 1) (xs.map (Value.int .i64) ++ [.int .i64 y]) → (w2.alloc (.cells #[.int .i64 y] 3)).grownBy w' (Value.slice la xs.length lc).ownBlock → (v'.ownBlock = (Value.slice la xs.length lc).ownBlock ∨ v'.ownBlock = some (w2.alloc (.cells #[.int .i64 y] 3)).heap.size) →
              QS w' (s + 1) s M (xs ++ [y]) ∧ Win w' (s + 2) 3 1 v' (xs ++ [y]).length ((xs ++ [y]).map (Value.int .i64)) ∧ (∀ j, v'.ownBlock = some j → s + 2 ≤ j) ∧ Below s w w') := by
            show ∀ v' w', _
            intro v' w' hw hg ho
            have hz : (w2.alloc (.cells #[.int .i64 y] 3)).heap.size = w2.heap.size + 1 := by simp
            refine ⟨HQ3.out.kept (((Kept.refl (fun j => s + 2 ≤ j) w2).alloc _).grown hg (fun r e => .inl (HO.out r e))) (by show ¬ s + 2 ≤ s + 1; omega) (by show ¬ s + 2 ≤ s; omega), by simpa using hw, fun j hj => ?_, (HB3.out.alloc (by omega) _).grown hg (by omega) (fun j e => by have := HO.out j e; omega)⟩
            rcases ho with e | e
            · rw [e] at hj; exact HO.out j hj
            · rw [e, hz] at hj; injection hj with hj; omega
          go_wp2_with (at_builtin; refine wpList_append_win _ rfl _ _ 22 rfl (s + 2) 3 i0 (.int .i64 0) 1 8 Try.underlying22 hi hz0 hz1 hz2 rfl (by decide) (.slice la xs.length lc) xs.length (xs.map (Value.int .i64)) rfl (HW3.out.alloc _) ⟨w2.heap.size, 0, none⟩ 1 1 [.int .i64 y] Nat.one_pos rfl rfl (cell_one_new _ _ _) (by simp [Value.oneCell']) h63 h64 (by simp; omega) ?_; intro v' w3 hw3 hg3 ho3; obtain ⟨k1, k2, k3, k4⟩ := KEY.out v' w3 hw3 hg3 ho3; obtain ⟨la3, lc3, rfl⟩ := hw3.slice; have K1 := Lib.hid k1; have K2 := Lib.hid k2; have K3 := Lib.hid k3; have K4 := Lib.hid k4; clear hw3 hg3 ho3 k1 k2 k3 k4)
          refine (qlen_at _ _ _ _ _ K1.out).mono ?_
          rintro e w4 ⟨rfl, rfl⟩
          rw [show (xs ++ [y]).length = xs.length + 1 by simp]
          go_wp2_with fail
          go_roundw
          case rel => exact ⟨k + 1, xs ++ [y], _, by omega, by go_num, rfl, ⟨K1.out, by simp; omega, K2.out, K3.out, by simp; omega⟩, K4.out⟩
          case measure => simp [intOf]; omega
        · have d6 : decide (xs.length < M) = false := decide_eq_false hf
          have d7 : decide ((xs.length : Int) < (M : Int)) = false := decide_eq_false (by omega)
          obtain ⟨la, lc, rfl⟩ := HW.out.slice
          go_wp2_with fail
          refine (push_no _ _ _ _ _ _ HQ2.out (by omega)).mono ?_
          rintro e w2 ⟨rfl, rfl⟩
          go_wp2_with fail
          refine (qlen_at _ _ _ _ _ HQ2.out).mono ?_
          rintro e w4 ⟨rfl, rfl⟩
          go_wp2_with fail
          go_roundw
          case rel => exact ⟨k + 1, xs, _, by omega, by go_num, rfl, ⟨HQ2.out, by omega, HW.out, HO.out, by omega⟩, HB2.out⟩
          case measure => simp [intOf]; omega
    · have hkn : k = n1 := by omega
      have d4 : decide ((k : Int) < (n1 : Int)) = false := decide_eq_false (by omega)
      have d4' : decide (k < n1) = false := decide_eq_false hlt
      go_wp2_with fail
      refine (lives_any _).mono ?_
      rintro e w2 ⟨rfl, hB⟩
      have HL : Hid (Below s w w2) := HB2.out.trans (hB.mono (by omega))
      clear hB
      go_wp2_with fail
      go_ret
      exact ⟨rfl, by rw [← HS.out]; exact HL.out⟩

theorem lifted (os : Os) (started : os.Started) (H : Type) (enc : TypeId × Value → H) :
    ReturnsInHanded {} Try.checked os 3 .any (Rows.queueActsSpec.pre6 enc Try.prog Try.f3 Rows.queueActsRow.domain false) (Rows.queueActsSpec.post enc Try.prog Try.f3 false true false false) := by
  refine returnsInHanded_of_change (C := Try.checked) own started (by kernel_rfl) Try.func3
    (ChangeSpec.witness6 (enc := enc) (C := Try.checked) false ⟨#[], #[.int .i64 0, .slice none 0 0], []⟩ 8 (by kernel_rfl) (by kernel_rfl) (by kernel_rfl) (by kernel_rfl)) ?_
  intro W base args ds gs before hval0 hW hcnd _
  have hval : ∀ (j : Nat) t v, Try.f3.params[j]? = some t → args[j]? = some v → Value.okWide Try.prog W .any base t v := hval0
  have hW' := hW
  obtain ⟨p, q, hA0, hV, rfl, hfz, hnd⟩ := hW
  have hA : DataW.TrodAll enc Try.prog W 0 (fun _ => true) true Try.f3.params.toList args.toList ds p := hA0
  rw [Try.params3] at hA hval
  obtain ⟨v0, vs0, d0, ds0, p0, q0, hargs, rfl, rfl, h0, r0⟩ := trodAll_cons hA
  obtain ⟨v1, vs1, d1, ds1, p1, q1, rfl, rfl, rfl, h1, r1⟩ := trodAll_cons r0
  obtain ⟨rfl, rfl, rfl⟩ := trodAll_nil r1
  obtain rfl : args = #[v0, v1] := by cases args; simp_all
  obtain ⟨rfl, rfl⟩ := trodVars_none hV
  obtain ⟨a0, rfl, rfl, rfl, w0⟩ := open_int Try.underlying3 (hval 0 3 v0 rfl rfl) h0
  obtain ⟨s1, n1, c1, rfl⟩ := okWide_slice Try.underlying22 (hval 1 22 v1 rfl rfl)
  have k1 := h1
  have lt1 : ∀ x ∈ p1, x.block < W.heap.size := by obtain ⟨m, hm⟩ := k1; exact DataW.trod_lt m _ _ _ hm
  obtain ⟨z1, w1⟩ : ∃ zs, IsRow W s1 n1 c1 zs := by
    obtain ⟨fuel, hf⟩ := h1
    rcases open_ints Try.underlying22 Try.underlying3 (by kernel_rfl) hf with ⟨hcs, _⟩ | ⟨x, l, c, zs, hcs, _, hl, hm, hz, _, hcell, hwz⟩
    · simp [Value.cells] at hcs
      obtain ⟨rfl, rfl, rfl⟩ := hcs
      exact ⟨[], .inl ⟨rfl, rfl, rfl, rfl⟩⟩
    · simp [Value.cells] at hcs
      obtain ⟨rfl, rfl, rfl⟩ := hcs
      exact ⟨zs, .inr ⟨_, rfl, hl, hm, by simpa using hz, hcell, hwz⟩⟩
  clear hA0 hval0
  try simp only [List.append_nil] at hW'
  refine (walk W a0 w0 s1 n1 c1 z1 w1).mono fun e W' ⟨he, hg⟩ => ?_
  subst he
  exact ⟨_, rfl, _, _, _, [], _, [], hW', (trodAll_cons_mk (shut_bool Try.underlying4 _) trodAll_mk0), (trodAll_cons_mk (shut_int Try.underlying3 w0) (trodAll_cons_mk (Below.trod laidOut (by kernel_rfl) (of_decide_eq_true (by kernel_rfl)) k1 hg lt1) trodAll_mk0)), rfl, hg.frame _, fun h => by cases h⟩

theorem over : Rows.queueActsRow.holds Try.pinned (OpenSpec.ofChange Rows.queueActsSpec) :=
  OpenClaim.holds_of_wide 3 Try.f3 rfl rfl rfl rfl rfl rfl rfl ⟨rfl, rfl, rfl, rfl, rfl⟩ rfl rfl rfl rfl rfl (by kernel_rfl) Try.func3 (by kernel_rfl)
    (of_decide_eq_true (by kernel_rfl)) (by unfold Func.isWrapper; first | (rw [if_pos (by decide +kernel)]; kernel_rfl) | (rw [if_neg (by decide +kernel)]; exact ⟨rfl, rfl⟩))
    (fun os started H enc _ => lifted os started H enc)

/-- ████ THE STATEMENT ████ -/
theorem proved : Rows.QueueActsSaid :=
  over
#print axioms proved
end Go.Proofs.Ytbjhpifllgoffaa.queueActs
