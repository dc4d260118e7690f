/- The law 'RlogNone' answers true at every input, and leaves its arguments as they were. (The frame was written by a program, after the kit's own frames; no condition beside the statement's own.) -/
import Derived.Test.YtbgfpmnicpmieaaRows
import Derived.WalkKit
import Derived.ProofKit
import Derived.OpenShut
import Derived.Deep.RegionHeld3
import Derived.Deep.DeepCutAuto
import Derived.ShutString
import Derived.ChangeOld
import Derived.Below
import Derived.SizedLaws
import Derived.Test.YtbgfpmnicpmieaaRQuiet
namespace Go.Proofs.Ytbgfpmnicpmieaa.rlogNone
open Go.ChangeShapes Go.WideShapes Go.ChangeAt Go.RowKit Go.Proofs.Ytbgfpmnicpmieaa
open Go.ChangeMaps (open_string shut_string)
set_option linter.unusedVariables false
set_option linter.unusedSimpArgs false
set_option maxRecDepth 100000

theorem own : ownKnob Try.prog.godebug = none := by kernel_rfl
theorem laidOut : laidOutB Try.prog = true := by kernel_rfl

set_option maxHeartbeats 4000000 in
theorem walk (w : World) (k0 a0 g0 : Int) (s0 : Option Addr) (n0 c0 : Nat) :
    Calls Try.prog 8 #[.agg #[.int .i64 k0, .int .i64 a0, .int .i64 g0, .slice s0 n0 c0]] w fun e w' => e = .returned (.bool true) ∧ Below w.heap.size w w' := by
  have L1 : Hid (Below w.heap.size w ((w.alloc (.cells #[.int .i64 k0, .int .i64 a0, .int .i64 g0, .slice s0 n0 c0] 48)).alloc (.cells #[.int .i64 0, .int .i64 0, .slice none 0 0, .int .i64 0, .int .i64 0, .int .i64 0, .bool false] 64))) := ((Below.refl _ w).alloc (Nat.le_refl _) _).alloc (by simp) _
  have N1 : Hid (NS ((w.alloc (.cells #[.int .i64 k0, .int .i64 a0, .int .i64 g0, .slice s0 n0 c0] 48)).alloc (.cells #[.int .i64 0, .int .i64 0, .slice none 0 0, .int .i64 0, .int .i64 0, .int .i64 0, .bool false] 64)) w.heap.size a0 g0 (.slice s0 n0 c0) (w.heap.size + 1)) := by
    have := LB.new (w.alloc (.cells #[.int .i64 k0, .int .i64 a0, .int .i64 g0, .slice s0 n0 c0] 48)) ⟨0, 0, none, 0, 0, 0, 0, 0, false⟩
    refine ⟨by simp, by simp, by simp, .inr ⟨_, rfl, ?_⟩⟩
    simpa using this
  have i0 : ∀ W, (Instr.index 65 (.agg #[.pointer none, .pointer (some ⟨w.heap.size + 1, 0, none⟩)]) (.int .i64 0)).run Try.prog W = .ok (.pointer none) W := fun _ => by kernel_rfl
  have i1 : ∀ W, (Instr.index 65 (.agg #[.pointer none, .pointer (some ⟨w.heap.size + 1, 0, none⟩)]) (.int .i64 1)).run Try.prog W = .ok (.pointer (some ⟨w.heap.size + 1, 0, none⟩)) W := fun _ => by kernel_rfl
  go_enter Try.func8, Try.ntmps8
  go_wp2_with fail
  go_loopw [17] (fun iv wr => ∃ k : Nat, k ≤ 2 ∧ iv = .int .i64 k ∧ NS wr w.heap.size a0 g0 (.slice s0 n0 c0) (w.heap.size + 1) ∧ Below w.heap.size w wr) (fun iv _ => 2 - (intOf iv).toNat)
  case atStart => exact ⟨0, by omega, rfl, N1.out, L1.out⟩
  case round =>
    obtain ⟨k, hk, rfl, hN, hB⟩ := hrel
    have N0 := Lib.hid hN
    have B0 := Lib.hid hB
    clear hN hB L1 N1
    obtain ⟨w0, hw0⟩ : ∃ w0, w0 = wr := ⟨_, rfl⟩
    subst hw0
    rcases (show k = 0 ∨ k = 1 ∨ k = 2 by omega) with rfl | rfl | rfl
    · have q1 := N0.out.1
      have q2 := N0.out.2.1
      have q3 := N0.out.2.2.1
      go_wp2_with fail
      refine (none_base none _ (.inl rfl)).mono ?_
      rintro e w1 ⟨rfl, hb⟩
      have N1 := Lib.hid (N0.out.keep hb)
      have B1 := Lib.hid (B0.out.trans (hb.mono B0.out.size))
      clear hb q1 q2 q3 N0 B0
      have q1 := N1.out.1
      have q2 := N1.out.2.1
      have q3 := N1.out.2.2.1
      go_wp2_with fail
      refine (none_last none _ (.inl rfl)).mono ?_
      rintro e w2 ⟨rfl, hb⟩
      have N2 := Lib.hid (N1.out.keep hb)
      have B2 := Lib.hid (B1.out.trans (hb.mono B1.out.size))
      clear hb q1 q2 q3 N1 B1
      have q1 := N2.out.1
      have q2 := N2.out.2.1
      have q3 := N2.out.2.2.1
      go_wp2_with fail
      refine (none_term none a0 _ (.inl rfl)).mono ?_
      rintro e w3 ⟨rfl, hb⟩
      have N3 := Lib.hid (N2.out.keep hb)
      have B3 := Lib.hid (B2.out.trans (hb.mono B2.out.size))
      clear hb q1 q2 q3 N2 B2
      have q1 := N3.out.1
      have q2 := N3.out.2.1
      have q3 := N3.out.2.2.1
      go_wp2_with fail
      refine (none_match none a0 g0 s0 n0 c0 _ (.inl rfl)).mono ?_
      rintro e w4 ⟨rfl, hb⟩
      have N4 := Lib.hid (N3.out.keep hb)
      have B4 := Lib.hid (B3.out.trans (hb.mono B3.out.size))
      clear hb q1 q2 q3 N3 B3
      have q1 := N4.out.1
      have q2 := N4.out.2.1
      have q3 := N4.out.2.2.1
      go_wp2_with fail
      refine (none_conf none _ (.inl rfl)).mono ?_
      rintro e w5 ⟨rfl, hb⟩
      have N5 := Lib.hid (N4.out.keep hb)
      have B5 := Lib.hid (B4.out.trans (hb.mono B4.out.size))
      clear hb q1 q2 q3 N4 B4
      go_upto_region 10 with fail
      have hb : Below w5.heap.size w5 (w5.alloc (.cells #[nS, nS] 35)) := (Below.refl _ _).alloc (Nat.le_refl _) _
      have X0 := Lib.hid (N5.out.keep hb)
      have Y0 := Lib.hid (B5.out.trans (hb.mono B5.out.size))
      clear hb
      have q1 := X0.out.1
      generalize w5.alloc (.cells #[nS, nS] 35) = wx at *
      go_wp2_with fail
      refine (none_sure none a0 _ (.inl rfl)).mono ?_
      rintro e w6 ⟨rfl, hb⟩
      have N6 := Lib.hid (X0.out.keep hb)
      have B6 := Lib.hid (Y0.out.trans (hb.mono Y0.out.size))
      clear hb q1 N5 B5 X0 Y0
      have q1 := N6.out.1
      have q2 := N6.out.2.1
      have q3 := N6.out.2.2.1
      go_wp2_with fail
      refine (none_restore none a0 g0 _ (.inl rfl)).mono ?_
      rintro e w7 ⟨rfl, hb⟩
      have N7 := Lib.hid (N6.out.keep hb)
      have B7 := Lib.hid (B6.out.trans (hb.mono B6.out.size))
      clear hb q1 q2 q3 N6 B6
      go_upto_region 12 with fail
      have q1 := N7.out.1
      have q2 := N7.out.2.1
      have NQ : Hid (NL w7 none) := .inl rfl
      dsimp only [List.append]
      obtain ⟨C, HC0, HCB, hcl, HL1, HL2, HKS⟩ : ∃ C : World → Prop, Hid (C w7.drew) ∧ Hid (∀ W, C W → Below w7.heap.size w7 W) ∧ (∀ q : Prop, (∀ W, C W → q) ↔ q) ∧ Hid (∀ W, C W → W.cell? ⟨w.heap.size, 1, none⟩ = some (.int .i64 a0)) ∧ Hid (∀ W, C W → W.cell? ⟨w.heap.size, 2, none⟩ = some (.int .i64 g0)) ∧ Hid ((∀ W, C W → Calls Try.prog 31 #[.int .i64 1, .int .i64 1] W fun e w' => e = .returned (nopV 1 1) ∧ C w') ∧ (∀ W, C W → Calls Try.prog 26 #[.pointer none, nopV 1 1] W fun e w' => e = .returned (.int .i64 1) ∧ C w') ∧ (∀ W, C W → Calls Try.prog 17 #[.pointer none, .int .i64 a0] W fun e w' => e = .returned (.bool false) ∧ C w') ∧ (∀ W, C W → Calls Try.prog 21 #[.pointer none, .int .i64 a0] W fun e w' => e = .returned (.bool false) ∧ C w') ∧ (∀ W, C W → Calls Try.prog 32 #[.pointer none, .int .i64 a0, .int .i64 g0] W fun e w' => e = .returned (.bool false) ∧ C w') ∧ (∀ W, C W → Calls Try.prog 14 #[.pointer none, .int .i64 a0, .int .i64 g0] W fun e w' => e = .returned (.int .i64 0) ∧ C w') ∧ (∀ W, C W → Calls Try.prog 19 #[.pointer none] W fun e w' => e = .returned (.int .i64 0) ∧ C w') ∧ (∀ W, C W → Calls Try.prog 33 #[.pointer none] W fun e w' => e = .returned (.int .i64 0) ∧ C w') ∧ (∀ W, C W → Calls Try.prog 22 #[.pointer none] W fun e w' => e = .returned (.int .i64 0) ∧ C w') ∧ (∀ W, C W → Calls Try.prog 24 #[.pointer none, .int .i64 a0, .int .i64 g0] W fun e w' => e = .returned (nS) ∧ C w') ∧ (∀ W, C W → Calls Try.prog 34 #[.pointer none] W fun e w' => e = .returned (nS) ∧ C w') ∧ (∀ W, C W → Calls Try.prog 18 #[.pointer none, .int .i64 a0] W fun e w' => e = .returned (nS) ∧ C w')) :=
        ⟨fun W => Below w7.heap.size w7 W, (Below.refl _ _).drew, fun _ h => h, fun q => ⟨fun h => h _ (Below.refl _ _), fun h _ _ => h⟩, fun W h => (h.cell (cell_block_lt q1)).trans q1, fun W h => (h.cell (cell_block_lt q2)).trans q2, ⟨fun W h => from_b h (noop_any 1 1 W), fun W h => from_b h (none_append none W (NQ.out.keep (Nat.le_refl _) h)), fun W h => from_b h (none_commit none a0 W (NQ.out.keep (Nat.le_refl _) h)), fun W h => from_b h (none_compact none a0 W (NQ.out.keep (Nat.le_refl _) h)), fun W h => from_b h (none_newer none a0 g0 W (NQ.out.keep (Nat.le_refl _) h)), fun W h => from_b h (none_hint none a0 g0 W (NQ.out.keep (Nat.le_refl _) h)), fun W h => from_b h (none_committed none W (NQ.out.keep (Nat.le_refl _) h)), fun W h => from_b h (none_stable none W (NQ.out.keep (Nat.le_refl _) h)), fun W h => from_b h (none_applied none W (NQ.out.keep (Nat.le_refl _) h)), fun W h => from_b h (none_slice none a0 g0 W (NQ.out.keep (Nat.le_refl _) h)), fun W h => from_b h (none_unsure none W (NQ.out.keep (Nat.le_refl _) h)), fun W h => from_b h (none_apply none a0 W (NQ.out.keep (Nat.le_refl _) h))⟩⟩
      clear q1 q2 NQ
      refine wp_region_class C (by kernel_rfl) (by kernel_rfl) HC0.out ?_
      repeat (first
        | go_big_quiet_skip
        | (go_big_quiet_want
           first
           | (refine quiet_load 3 _ ⟨w.heap.size, 1, none⟩ (.int .i64 a0) rfl rfl HL1.out ?_; try simp only [Act.put, List.setIfInBounds_toArray, List.set_cons_zero, List.set_cons_succ]; go_big_quiet_on)
           | (refine quiet_load 3 _ ⟨w.heap.size, 2, none⟩ (.int .i64 g0) rfl rfl HL2.out ?_; try simp only [Act.put, List.setIfInBounds_toArray, List.set_cons_zero, List.set_cons_succ]; go_big_quiet_on)
           | (go_big_quiet_op
              first
              | go_big_quiet_on
              | (apply Exists.intro
                 refine ⟨?_, ?_⟩
                 · (first
                    | exact HKS.out.1
                    | exact HKS.out.2.1
                    | exact HKS.out.2.2.1
                    | exact HKS.out.2.2.2.1
                    | exact HKS.out.2.2.2.2.1
                    | exact HKS.out.2.2.2.2.2.1
                    | exact HKS.out.2.2.2.2.2.2.1
                    | exact HKS.out.2.2.2.2.2.2.2.1
                    | exact HKS.out.2.2.2.2.2.2.2.2.1
                    | exact HKS.out.2.2.2.2.2.2.2.2.2.1
                    | exact HKS.out.2.2.2.2.2.2.2.2.2.2.1
                    | exact HKS.out.2.2.2.2.2.2.2.2.2.2.2)
                 go_big_quiet_on))))
      refine wpQuiet_nil ?_
      intro wz hz
      have HZ := Lib.hid (HCB.out wz hz)
      clear hz HC0 HCB hcl HL1 HL2 HKS
      go_wp2_with fail
      go_roundw
      case rel => exact ⟨1, by omega, rfl, N7.out.keep HZ.out, B7.out.trans (HZ.out.mono B7.out.size)⟩
      case measure => simp [intOf]
    · have q1 := N0.out.1
      have q2 := N0.out.2.1
      have q3 := N0.out.2.2.1
      go_wp2_with fail
      refine (none_base (some ⟨w.heap.size + 1, 0, none⟩) _ (N0.out.2.2.2)).mono ?_
      rintro e w1 ⟨rfl, hb⟩
      have N1 := Lib.hid (N0.out.keep hb)
      have B1 := Lib.hid (B0.out.trans (hb.mono B0.out.size))
      clear hb q1 q2 q3 N0 B0
      have q1 := N1.out.1
      have q2 := N1.out.2.1
      have q3 := N1.out.2.2.1
      go_wp2_with fail
      refine (none_last (some ⟨w.heap.size + 1, 0, none⟩) _ (N1.out.2.2.2)).mono ?_
      rintro e w2 ⟨rfl, hb⟩
      have N2 := Lib.hid (N1.out.keep hb)
      have B2 := Lib.hid (B1.out.trans (hb.mono B1.out.size))
      clear hb q1 q2 q3 N1 B1
      have q1 := N2.out.1
      have q2 := N2.out.2.1
      have q3 := N2.out.2.2.1
      go_wp2_with fail
      refine (none_term (some ⟨w.heap.size + 1, 0, none⟩) a0 _ (N2.out.2.2.2)).mono ?_
      rintro e w3 ⟨rfl, hb⟩
      have N3 := Lib.hid (N2.out.keep hb)
      have B3 := Lib.hid (B2.out.trans (hb.mono B2.out.size))
      clear hb q1 q2 q3 N2 B2
      have q1 := N3.out.1
      have q2 := N3.out.2.1
      have q3 := N3.out.2.2.1
      go_wp2_with fail
      refine (none_match (some ⟨w.heap.size + 1, 0, none⟩) a0 g0 s0 n0 c0 _ (N3.out.2.2.2)).mono ?_
      rintro e w4 ⟨rfl, hb⟩
      have N4 := Lib.hid (N3.out.keep hb)
      have B4 := Lib.hid (B3.out.trans (hb.mono B3.out.size))
      clear hb q1 q2 q3 N3 B3
      have q1 := N4.out.1
      have q2 := N4.out.2.1
      have q3 := N4.out.2.2.1
      go_wp2_with fail
      refine (none_conf (some ⟨w.heap.size + 1, 0, none⟩) _ (N4.out.2.2.2)).mono ?_
      rintro e w5 ⟨rfl, hb⟩
      have N5 := Lib.hid (N4.out.keep hb)
      have B5 := Lib.hid (B4.out.trans (hb.mono B4.out.size))
      clear hb q1 q2 q3 N4 B4
      go_upto_region 10 with fail
      have hb : Below w5.heap.size w5 (w5.alloc (.cells #[nS, nS] 35)) := (Below.refl _ _).alloc (Nat.le_refl _) _
      have X0 := Lib.hid (N5.out.keep hb)
      have Y0 := Lib.hid (B5.out.trans (hb.mono B5.out.size))
      clear hb
      have q1 := X0.out.1
      generalize w5.alloc (.cells #[nS, nS] 35) = wx at *
      go_wp2_with fail
      refine (none_sure (some ⟨w.heap.size + 1, 0, none⟩) a0 _ (X0.out.2.2.2)).mono ?_
      rintro e w6 ⟨rfl, hb⟩
      have N6 := Lib.hid (X0.out.keep hb)
      have B6 := Lib.hid (Y0.out.trans (hb.mono Y0.out.size))
      clear hb q1 N5 B5 X0 Y0
      have q1 := N6.out.1
      have q2 := N6.out.2.1
      have q3 := N6.out.2.2.1
      go_wp2_with fail
      refine (none_restore (some ⟨w.heap.size + 1, 0, none⟩) a0 g0 _ (N6.out.2.2.2)).mono ?_
      rintro e w7 ⟨rfl, hb⟩
      have N7 := Lib.hid (N6.out.keep hb)
      have B7 := Lib.hid (B6.out.trans (hb.mono B6.out.size))
      clear hb q1 q2 q3 N6 B6
      go_upto_region 12 with fail
      have q1 := N7.out.1
      have q2 := N7.out.2.1
      have NQ : Hid (NL w7 (some ⟨w.heap.size + 1, 0, none⟩)) := N7.out.2.2.2
      dsimp only [List.append]
      obtain ⟨C, HC0, HCB, hcl, HL1, HL2, HKS⟩ : ∃ C : World → Prop, Hid (C w7.drew) ∧ Hid (∀ W, C W → Below w7.heap.size w7 W) ∧ (∀ q : Prop, (∀ W, C W → q) ↔ q) ∧ Hid (∀ W, C W → W.cell? ⟨w.heap.size, 1, none⟩ = some (.int .i64 a0)) ∧ Hid (∀ W, C W → W.cell? ⟨w.heap.size, 2, none⟩ = some (.int .i64 g0)) ∧ Hid ((∀ W, C W → Calls Try.prog 31 #[.int .i64 1, .int .i64 1] W fun e w' => e = .returned (nopV 1 1) ∧ C w') ∧ (∀ W, C W → Calls Try.prog 26 #[.pointer (some ⟨w.heap.size + 1, 0, none⟩), nopV 1 1] W fun e w' => e = .returned (.int .i64 1) ∧ C w') ∧ (∀ W, C W → Calls Try.prog 17 #[.pointer (some ⟨w.heap.size + 1, 0, none⟩), .int .i64 a0] W fun e w' => e = .returned (.bool false) ∧ C w') ∧ (∀ W, C W → Calls Try.prog 21 #[.pointer (some ⟨w.heap.size + 1, 0, none⟩), .int .i64 a0] W fun e w' => e = .returned (.bool false) ∧ C w') ∧ (∀ W, C W → Calls Try.prog 32 #[.pointer (some ⟨w.heap.size + 1, 0, none⟩), .int .i64 a0, .int .i64 g0] W fun e w' => e = .returned (.bool false) ∧ C w') ∧ (∀ W, C W → Calls Try.prog 14 #[.pointer (some ⟨w.heap.size + 1, 0, none⟩), .int .i64 a0, .int .i64 g0] W fun e w' => e = .returned (.int .i64 0) ∧ C w') ∧ (∀ W, C W → Calls Try.prog 19 #[.pointer (some ⟨w.heap.size + 1, 0, none⟩)] W fun e w' => e = .returned (.int .i64 0) ∧ C w') ∧ (∀ W, C W → Calls Try.prog 33 #[.pointer (some ⟨w.heap.size + 1, 0, none⟩)] W fun e w' => e = .returned (.int .i64 0) ∧ C w') ∧ (∀ W, C W → Calls Try.prog 22 #[.pointer (some ⟨w.heap.size + 1, 0, none⟩)] W fun e w' => e = .returned (.int .i64 0) ∧ C w') ∧ (∀ W, C W → Calls Try.prog 24 #[.pointer (some ⟨w.heap.size + 1, 0, none⟩), .int .i64 a0, .int .i64 g0] W fun e w' => e = .returned (nS) ∧ C w') ∧ (∀ W, C W → Calls Try.prog 34 #[.pointer (some ⟨w.heap.size + 1, 0, none⟩)] W fun e w' => e = .returned (nS) ∧ C w') ∧ (∀ W, C W → Calls Try.prog 18 #[.pointer (some ⟨w.heap.size + 1, 0, none⟩), .int .i64 a0] W fun e w' => e = .returned (nS) ∧ C w')) :=
        ⟨fun W => Below w7.heap.size w7 W, (Below.refl _ _).drew, fun _ h => h, fun q => ⟨fun h => h _ (Below.refl _ _), fun h _ _ => h⟩, fun W h => (h.cell (cell_block_lt q1)).trans q1, fun W h => (h.cell (cell_block_lt q2)).trans q2, ⟨fun W h => from_b h (noop_any 1 1 W), fun W h => from_b h (none_append (some ⟨w.heap.size + 1, 0, none⟩) W (NQ.out.keep (Nat.le_refl _) h)), fun W h => from_b h (none_commit (some ⟨w.heap.size + 1, 0, none⟩) a0 W (NQ.out.keep (Nat.le_refl _) h)), fun W h => from_b h (none_compact (some ⟨w.heap.size + 1, 0, none⟩) a0 W (NQ.out.keep (Nat.le_refl _) h)), fun W h => from_b h (none_newer (some ⟨w.heap.size + 1, 0, none⟩) a0 g0 W (NQ.out.keep (Nat.le_refl _) h)), fun W h => from_b h (none_hint (some ⟨w.heap.size + 1, 0, none⟩) a0 g0 W (NQ.out.keep (Nat.le_refl _) h)), fun W h => from_b h (none_committed (some ⟨w.heap.size + 1, 0, none⟩) W (NQ.out.keep (Nat.le_refl _) h)), fun W h => from_b h (none_stable (some ⟨w.heap.size + 1, 0, none⟩) W (NQ.out.keep (Nat.le_refl _) h)), fun W h => from_b h (none_applied (some ⟨w.heap.size + 1, 0, none⟩) W (NQ.out.keep (Nat.le_refl _) h)), fun W h => from_b h (none_slice (some ⟨w.heap.size + 1, 0, none⟩) a0 g0 W (NQ.out.keep (Nat.le_refl _) h)), fun W h => from_b h (none_unsure (some ⟨w.heap.size + 1, 0, none⟩) W (NQ.out.keep (Nat.le_refl _) h)), fun W h => from_b h (none_apply (some ⟨w.heap.size + 1, 0, none⟩) a0 W (NQ.out.keep (Nat.le_refl _) h))⟩⟩
      clear q1 q2 NQ
      refine wp_region_class C (by kernel_rfl) (by kernel_rfl) HC0.out ?_
      repeat (first
        | go_big_quiet_skip
        | (go_big_quiet_want
           first
           | (refine quiet_load 3 _ ⟨w.heap.size, 1, none⟩ (.int .i64 a0) rfl rfl HL1.out ?_; try simp only [Act.put, List.setIfInBounds_toArray, List.set_cons_zero, List.set_cons_succ]; go_big_quiet_on)
           | (refine quiet_load 3 _ ⟨w.heap.size, 2, none⟩ (.int .i64 g0) rfl rfl HL2.out ?_; try simp only [Act.put, List.setIfInBounds_toArray, List.set_cons_zero, List.set_cons_succ]; go_big_quiet_on)
           | (go_big_quiet_op
              first
              | go_big_quiet_on
              | (apply Exists.intro
                 refine ⟨?_, ?_⟩
                 · (first
                    | exact HKS.out.1
                    | exact HKS.out.2.1
                    | exact HKS.out.2.2.1
                    | exact HKS.out.2.2.2.1
                    | exact HKS.out.2.2.2.2.1
                    | exact HKS.out.2.2.2.2.2.1
                    | exact HKS.out.2.2.2.2.2.2.1
                    | exact HKS.out.2.2.2.2.2.2.2.1
                    | exact HKS.out.2.2.2.2.2.2.2.2.1
                    | exact HKS.out.2.2.2.2.2.2.2.2.2.1
                    | exact HKS.out.2.2.2.2.2.2.2.2.2.2.1
                    | exact HKS.out.2.2.2.2.2.2.2.2.2.2.2)
                 go_big_quiet_on))))
      refine wpQuiet_nil ?_
      intro wz hz
      have HZ := Lib.hid (HCB.out wz hz)
      clear hz HC0 HCB hcl HL1 HL2 HKS
      go_wp2_with fail
      go_roundw
      case rel => exact ⟨2, by omega, rfl, N7.out.keep HZ.out, B7.out.trans (HZ.out.mono B7.out.size)⟩
      case measure => simp [intOf]
    · go_wp2_with fail
      refine (lives_any _).mono ?_
      rintro e w1 ⟨rfl, hb⟩
      have B1 := Lib.hid (B0.out.trans (hb.mono B0.out.size))
      clear hb
      go_wp2_with fail
      go_ret
      exact ⟨rfl, B1.out⟩

theorem lifted (os : Os) (started : os.Started) (H : Type) (enc : TypeId × Value → H) :
    ReturnsInHanded {} Try.checked os 8 .any (Rows.rlogNoneSpec.pre6 enc Try.prog Try.f8 Rows.rlogNoneRow.domain false) (Rows.rlogNoneSpec.post enc Try.prog Try.f8 false true false false) := by
  refine returnsInHanded_of_change (C := Try.checked) own started (by kernel_rfl) Try.func8
    (ChangeSpec.witness6 (enc := enc) (C := Try.checked) false ⟨#[], #[.agg #[.int .i64 0, .int .i64 0, .int .i64 0, .slice none 0 0]], []⟩ 8 (by kernel_rfl) (by kernel_rfl) (by kernel_rfl) (by kernel_rfl)) ?_
  intro W base args ds gs before hval0 hW hcnd _
  have hval : ∀ (j : Nat) t v, Try.f8.params[j]? = some t → args[j]? = some v → Value.okWide Try.prog W .any base t v := hval0
  have hW' := hW
  obtain ⟨p, q, hA0, hV, rfl, hfz, hnd⟩ := hW
  have hA : DataW.TrodAll enc Try.prog W 0 (fun _ => true) true Try.f8.params.toList args.toList ds p := hA0
  rw [Try.params8] at hA hval
  obtain ⟨v0, vs0, d0, ds0, p0, q0, hargs, rfl, rfl, h0, r0⟩ := trodAll_cons hA
  obtain ⟨rfl, rfl, rfl⟩ := trodAll_nil r0
  obtain rfl : args = #[v0] := by cases args; simp_all
  obtain ⟨rfl, rfl⟩ := trodVars_none hV
  have k0 := h0
  have lt0 : ∀ x ∈ p0, x.block < W.heap.size := by obtain ⟨m, hm⟩ := k0; exact DataW.trod_lt m _ _ _ hm
  obtain ⟨kk0, a0, g0, s0, n0, c0, rfl⟩ := open_act (hval 0 48 v0 rfl rfl) h0
  clear hA0 hval0
  try simp only [List.append_nil] at hW'
  refine (walk W kk0 a0 g0 s0 n0 c0).mono fun e W' ⟨he, hg⟩ => ?_
  subst he
  exact ⟨_, rfl, _, _, _, [], _, [], hW', (trodAll_cons_mk (shut_bool Try.underlying4 _) trodAll_mk0), (trodAll_cons_mk (Below.trod laidOut (by kernel_rfl) (of_decide_eq_true (by kernel_rfl)) k0 hg lt0) trodAll_mk0), rfl, hg.frame _, fun h => by cases h⟩

theorem over : Rows.rlogNoneRow.holds Try.pinned (OpenSpec.ofChange Rows.rlogNoneSpec) :=
  OpenClaim.holds_of_wide 8 Try.f8 rfl rfl rfl rfl rfl rfl rfl ⟨rfl, rfl, rfl, rfl, rfl⟩ rfl rfl rfl rfl rfl (by kernel_rfl) Try.func8 (by kernel_rfl)
    (of_decide_eq_true (by kernel_rfl)) (by unfold Func.isWrapper; first | (rw [if_pos (by decide +kernel)]; kernel_rfl) | (rw [if_neg (by decide +kernel)]; exact ⟨rfl, rfl⟩))
    (fun os started H enc _ => lifted os started H enc)

/-- ████ THE STATEMENT ████ -/
theorem proved : Rows.RlogNoneSaid :=
  over
#print axioms proved
end Go.Proofs.Ytbgfpmnicpmieaa.rlogNone
