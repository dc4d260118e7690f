/- The law 'QueueNone' answers true at every input, and leaves its arguments as they were. (The frame was written by a program, after the kit's own frames; no condition beside the statement's own.) -/
import Derived.Test.YtbjhpifllgoffaaRows
import Derived.WalkKit
import Derived.ProofKit
import Derived.OpenShut
import Derived.Deep.RegionHeld3
import Derived.Deep.DeepCutAuto
import Derived.ShutString
import Derived.ChangeOld
import Derived.Below
import Derived.SizedLaws
import Derived.Test.YtbjhpifllgoffaaNone
namespace Go.Proofs.Ytbjhpifllgoffaa.queueNone
open Go.ChangeShapes Go.WideShapes Go.ChangeAt Go.RowKit Go.Proofs.Ytbjhpifllgoffaa
open Go.ChangeMaps (open_string shut_string)
set_option linter.unusedVariables false
set_option linter.unusedSimpArgs false
set_option maxRecDepth 100000

theorem own : ownKnob Try.prog.godebug = none := by kernel_rfl
theorem laidOut : laidOutB Try.prog = true := by kernel_rfl

set_option maxHeartbeats 4000000 in
theorem walk (w : World) (a0 : Int) (w0 : (Lit.int .i64 a0).wf = true) (s1 : Option Addr) (n1 c1 : Nat) (z1 : List Int) (t1 : Option Addr) (m1 e1 : Nat) (y1 : List Int) (r1 : IsRow w s1 n1 c1 z1) (q1 : IsRow w t1 m1 e1 y1) :
    Calls Try.prog 7 #[.int .i64 a0, .agg #[.slice s1 n1 c1, .slice t1 m1 e1]] w fun e w' => e = .returned (.bool true) ∧ Below w.heap.size w w' := by
  clear w0 r1 q1
  obtain ⟨s, hs⟩ : ∃ s, s = w.heap.size := ⟨_, rfl⟩
  have HS := Lib.hid hs
  go_enter Try.func7, Try.ntmps7
  go_wp2_with fail
  rw [← hs]
  have B1 : Hid (Below s w ((w.alloc (.cells #[.slice s1 n1 c1, .slice t1 m1 e1] 32)).alloc (.cells #[.chan none] 60))) := by
    show Below _ _ _
    rw [hs]; exact ((Below.refl _ w).alloc (Nat.le_refl _) _).alloc (by simp) _
  have hz : (w.alloc (.cells #[.slice s1 n1 c1, .slice t1 m1 e1] 32)).heap.size = s + 1 := by simp [hs]
  have X1 : Hid (((w.alloc (.cells #[.slice s1 n1 c1, .slice t1 m1 e1] 32)).alloc (.cells #[.chan none] 60)).heap[s + 1]? = some (.cells #[.chan none] 60 (0, 0))) := by
    show _ = _
    rw [← hz]; exact heap_alloc_new _ _
  have X0 : Hid (((w.alloc (.cells #[.slice s1 n1 c1, .slice t1 m1 e1] 32)).alloc (.cells #[.chan none] 60)).heap[s]? = some (.cells #[.slice s1 n1 c1, .slice t1 m1 e1] 32 (0, 0))) := by
    show _ = _
    rw [Below.heap_alloc _ _ _ (by omega), hs]; exact heap_alloc_new _ _
  have Z1 : Hid (((w.alloc (.cells #[.slice s1 n1 c1, .slice t1 m1 e1] 32)).alloc (.cells #[.chan none] 60)).heap.size = s + 2) := by
    show _ = _
    simp [hs]
  generalize (w.alloc (.cells #[.slice s1 n1 c1, .slice t1 m1 e1] 32)).alloc (.cells #[.chan none] 60) = W at *
  clear hz hs
  have i0 : ∀ W, (Instr.index 62 (.agg #[.pointer none, .pointer (some ⟨s + 1, 0, none⟩)]) (.int .i64 0)).run Try.prog W = .ok (.pointer none) W := fun _ => by kernel_rfl
  have i1 : ∀ W, (Instr.index 62 (.agg #[.pointer none, .pointer (some ⟨s + 1, 0, none⟩)]) (.int .i64 1)).run Try.prog W = .ok (.pointer (some ⟨s + 1, 0, none⟩)) W := fun _ => by kernel_rfl
  have j0 : ∀ W, (Instr.index 70 (.agg #[.pointer none, .pointer (some ⟨s + 2, 0, none⟩)]) (.int .i64 0)).run Try.prog W = .ok (.pointer none) W := fun _ => by kernel_rfl
  have j1 : ∀ W, (Instr.index 70 (.agg #[.pointer none, .pointer (some ⟨s + 2, 0, none⟩)]) (.int .i64 1)).run Try.prog W = .ok (.pointer (some ⟨s + 2, 0, none⟩)) W := fun _ => by kernel_rfl
  have Q0 : Hid (NoQ W none) := .inl rfl
  have Q1 : Hid (NoQ W (some ⟨s + 1, 0, none⟩)) := .inr ⟨_, rfl, by simp [World.cell?, X1.out]⟩
  go_loop [14] (fun iv => ∃ k : Nat, k ≤ 2 ∧ iv = .int .i64 k) (fun iv => 2 - (intOf iv).toNat)
  case atStart => exact ⟨0, by omega, rfl⟩
  case round =>
    obtain ⟨k, hk, rfl⟩ := hrel
    have hkk : k = 0 ∨ k = 1 ∨ k = 2 := by omega
    rcases hkk with rfl | rfl | rfl
    · go_wp2_with (first | (go_at_call 26; refine (spop_no _ _ Q0.out).mono ?_; rintro e w2 ⟨rfl, rfl⟩) | (go_at_call 27; refine (spush_no _ _ _ Q0.out).mono ?_; rintro e w2 ⟨rfl, rfl⟩) | (go_at_call 28; refine (slen_no _ _ Q0.out).mono ?_; rintro e w2 ⟨rfl, rfl⟩))
      go_round
      case rel => exact ⟨1, by omega, rfl⟩
      case measure => simp [intOf]
    · go_wp2_with (first | (go_at_call 26; refine (spop_no _ _ Q1.out).mono ?_; rintro e w2 ⟨rfl, rfl⟩) | (go_at_call 27; refine (spush_no _ _ _ Q1.out).mono ?_; rintro e w2 ⟨rfl, rfl⟩) | (go_at_call 28; refine (slen_no _ _ Q1.out).mono ?_; rintro e w2 ⟨rfl, rfl⟩))
      go_round
      case rel => exact ⟨2, by omega, rfl⟩
      case measure => simp [intOf]
    · go_wp2_with fail
      rw [Z1.out]
      have START : Hid (NnW w s s1 n1 c1 t1 m1 e1 (W.alloc (.cells #[.slice none 0 0, .map none] 69))) := by
        refine ⟨B1.out.alloc (by rw [Z1.out]; omega) _, ?_, ?_, by simp [Z1.out]⟩
        · rw [Below.heap_alloc _ _ _ (by rw [Z1.out]; omega)]; exact X0.out
        · rw [← Z1.out]; exact heap_alloc_new _ _
      generalize W.alloc (.cells #[.slice none 0 0, .map none] 69) = W2 at *
      clear Q0 Q1 i0 i1 X0 X1 Z1 B1
      go_loopw [38] (fun iv wr => ∃ k : Nat, k ≤ 2 ∧ iv = .int .i64 k ∧ NnW w s s1 n1 c1 t1 m1 e1 wr) (fun iv _ => 2 - (intOf iv).toNat)
      case atStart => exact ⟨0, by omega, rfl, START.out⟩
      case round =>
        obtain ⟨k, hk, rfl, hNW⟩ := hrel
        have HNW := Lib.hid hNW
        obtain ⟨hB, h0, h2, hsz⟩ := hNW
        have HB := Lib.hid hB
        have d0 : wr.cell? ⟨s, 0, none⟩ = some (.slice s1 n1 c1) := by simp [World.cell?, h0]
        have d1 : wr.cell? ⟨s, 1, none⟩ = some (.slice t1 m1 e1) := by simp [World.cell?, h0]
        have R0 : Hid (NoR wr none) := .inl rfl
        have R1 : Hid (NoR wr (some ⟨s + 2, 0, none⟩)) := .inr ⟨_, rfl, by simp [World.cell?, h2]⟩
        clear hB h0 h2
        have hkk : k = 0 ∨ k = 1 ∨ k = 2 := by omega
        rcases hkk with rfl | rfl | rfl
        · go_wp2_with (first
            | (go_at_call 15; refine (rsaid_no _ _ _ _ R0.out).mono ?_; rintro e w2 ⟨rfl, rfl⟩)
            | (go_at_call 14; refine (radd_no _ _ _ _ _ R0.out).mono ?_; rintro e w2 ⟨rfl, rfl⟩)
            | (go_at_call 16; refine (rready_no _ _ _ _ _ _ _ _ _ R0.out).mono ?_; rintro e w5 ⟨rfl, hB5⟩; have HN5 := Lib.hid (HNW.out.below hB5); have R5 : Hid (NoR w5 none) := .inl rfl; clear hB5)
            | (go_at_call 24; refine (rdrop_no _ _ R5.out).mono ?_; rintro e w2 ⟨rfl, rfl⟩)
            | (go_at_call 18; refine (rlen_no _ _ R5.out).mono ?_; rintro e w2 ⟨rfl, rfl⟩))
          go_roundw
          case rel => exact ⟨1, by omega, rfl, HN5.out⟩
          case measure => simp [intOf]
        · go_wp2_with (first
            | (go_at_call 15; refine (rsaid_no _ _ _ _ R1.out).mono ?_; rintro e w2 ⟨rfl, rfl⟩)
            | (go_at_call 14; refine (radd_no _ _ _ _ _ R1.out).mono ?_; rintro e w2 ⟨rfl, rfl⟩)
            | (go_at_call 16; refine (rready_no _ _ _ _ _ _ _ _ _ R1.out).mono ?_; rintro e w5 ⟨rfl, hB5⟩; have HN5 := Lib.hid (HNW.out.below hB5); have R5 : Hid (NoR w5 (some ⟨s + 2, 0, none⟩)) := R1.out.keep hB5 (Nat.le_refl _); clear hB5)
            | (go_at_call 24; refine (rdrop_no _ _ R5.out).mono ?_; rintro e w2 ⟨rfl, rfl⟩)
            | (go_at_call 18; refine (rlen_no _ _ R5.out).mono ?_; rintro e w2 ⟨rfl, rfl⟩))
          go_roundw
          case rel => exact ⟨2, by omega, rfl, HN5.out⟩
          case measure => simp [intOf]
        · go_wp2_with fail
          refine (lives_any _).mono ?_
          rintro e w2 ⟨rfl, hB⟩
          have HL : Hid (Below s w w2) := HB.out.trans (hB.mono (by omega))
          clear hB
          go_wp2_with fail
          go_ret
          exact ⟨rfl, by rw [← HS.out]; exact HL.out⟩

theorem lifted (os : Os) (started : os.Started) (H : Type) (enc : TypeId × Value → H) :
    ReturnsInHanded {} Try.checked os 7 .any (Rows.queueNoneSpec.pre6 enc Try.prog Try.f7 Rows.queueNoneRow.domain false) (Rows.queueNoneSpec.post enc Try.prog Try.f7 false true false false) := by
  refine returnsInHanded_of_change (C := Try.checked) own started (by kernel_rfl) Try.func7
    (ChangeSpec.witness6 (enc := enc) (C := Try.checked) false ⟨#[], #[.int .i64 0, .agg #[.slice none 0 0, .slice none 0 0]], []⟩ 8 (by kernel_rfl) (by kernel_rfl) (by kernel_rfl) (by kernel_rfl)) ?_
  intro W base args ds gs before hval0 hW hcnd _
  have hval : ∀ (j : Nat) t v, Try.f7.params[j]? = some t → args[j]? = some v → Value.okWide Try.prog W .any base t v := hval0
  have hW' := hW
  obtain ⟨p, q, hA0, hV, rfl, hfz, hnd⟩ := hW
  have hA : DataW.TrodAll enc Try.prog W 0 (fun _ => true) true Try.f7.params.toList args.toList ds p := hA0
  rw [Try.params7] at hA hval
  obtain ⟨v0, vs0, d0, ds0, p0, q0, hargs, rfl, rfl, h0, r0⟩ := trodAll_cons hA
  obtain ⟨v1, vs1, d1, ds1, p1, q1, rfl, rfl, rfl, h1, r1⟩ := trodAll_cons r0
  obtain ⟨rfl, rfl, rfl⟩ := trodAll_nil r1
  obtain rfl : args = #[v0, v1] := by cases args; simp_all
  obtain ⟨rfl, rfl⟩ := trodVars_none hV
  obtain ⟨a0, rfl, rfl, rfl, w0⟩ := open_int Try.underlying3 (hval 0 3 v0 rfl rfl) h0
  have k1 := h1
  have lt1 : ∀ x ∈ p1, x.block < W.heap.size := by obtain ⟨m, hm⟩ := k1; exact DataW.trod_lt m _ _ _ hm
  obtain ⟨s1, n1, c1, z1, t1, m1, e1, y1, g1, f1, rfl, rfl, w1, x1, j1, l1⟩ := open_conf (hval 1 32 v1 rfl rfl) h1
  clear j1 l1
  clear hA0 hval0
  try simp only [List.append_nil] at hW'
  refine (walk W a0 w0 s1 n1 c1 z1 t1 m1 e1 y1 w1 x1).mono fun e W' ⟨he, hg⟩ => ?_
  subst he
  exact ⟨_, rfl, _, _, _, [], _, [], hW', (trodAll_cons_mk (shut_bool Try.underlying4 _) trodAll_mk0), (trodAll_cons_mk (shut_int Try.underlying3 w0) (trodAll_cons_mk (Below.trod laidOut (by kernel_rfl) (of_decide_eq_true (by kernel_rfl)) k1 hg lt1) trodAll_mk0)), rfl, hg.frame _, fun h => by cases h⟩

theorem over : Rows.queueNoneRow.holds Try.pinned (OpenSpec.ofChange Rows.queueNoneSpec) :=
  OpenClaim.holds_of_wide 7 Try.f7 rfl rfl rfl rfl rfl rfl rfl ⟨rfl, rfl, rfl, rfl, rfl⟩ rfl rfl rfl rfl rfl (by kernel_rfl) Try.func7 (by kernel_rfl)
    (of_decide_eq_true (by kernel_rfl)) (by unfold Func.isWrapper; first | (rw [if_pos (by decide +kernel)]; kernel_rfl) | (rw [if_neg (by decide +kernel)]; exact ⟨rfl, rfl⟩))
    (fun os started H enc _ => lifted os started H enc)

/-- ████ THE STATEMENT ████ -/
theorem proved : Rows.QueueNoneSaid :=
  over
#print axioms proved
end Go.Proofs.Ytbjhpifllgoffaa.queueNone
