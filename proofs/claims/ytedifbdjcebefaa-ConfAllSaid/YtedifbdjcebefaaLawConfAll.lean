/- The law 'ConfAll' answers true at every input, and leaves its arguments as they were. (The frame was written by a program, after the kit's own frames; no condition beside the statement's own.) -/
import Derived.Test.YtedifbdjcebefaaRows
import Derived.WalkKit
import Derived.ProofKit
import Derived.OpenShut
import Derived.Deep.RegionHeld3
import Derived.Deep.DeepCutAuto
import Derived.ShutString
import Derived.ChangeOld
import Derived.Below
import Derived.SizedLaws
import Derived.Test.YtedifbdjcebefaaAllPlain
namespace Go.Proofs.Ytedifbdjcebefaa.confAll
open Go.ChangeShapes Go.WideShapes Go.ChangeAt Go.RowKit Go.Proofs.Ytedifbdjcebefaa
open Go.ChangeMaps (open_string shut_string)
set_option linter.unusedVariables false
set_option linter.unusedSimpArgs false
set_option maxRecDepth 100000

theorem own : ownKnob Try.prog.godebug = none := by kernel_rfl
theorem laidOut : laidOutB Try.prog = true := by kernel_rfl

set_option maxHeartbeats 4000000 in
theorem walk (w : World) (s0 : Option Addr) (n0 c0 : Nat) (z0 : List Int) (t0 : Option Addr) (m0 e0 : Nat) (y0 : List Int) (r0 : IsRow w s0 n0 c0 z0) (q0 : IsRow w t0 m0 e0 y0) (b0 : n0 ≤ 17592186044416 ∧ m0 ≤ 17592186044416) (s1 : Option Addr) (n1 c1 : Nat) (z1 : List Int) (r1 : IsRow w s1 n1 c1 z1) (a2 : Int) (w2 : (Lit.int .i64 a2).wf = true) :
    Calls Try.prog 6 #[.agg #[.slice s0 n0 c0, .slice t0 m0 e0], .slice s1 n1 c1, .int .i64 a2] w fun e w' => e = .returned (.bool true) ∧ Below w.heap.size w w' := by
  have hle : n0 ≤ 9223372036854775807 ∧ m0 ≤ 9223372036854775807 := by omega
  have hV := r0.rd
  have hL := q0.rd
  have hA := r1.rd
  have HX1 := Lib.hid r1.max
  obtain ⟨A, hAe⟩ : ∃ A, A = z1.take n1 := ⟨_, rfl⟩
  have HAe := Lib.hid hAe
  have HR1 := Lib.hid r1
  rw [← hAe] at hA
  generalize z0.take n0 = V at hV
  generalize y0.take m0 = L at hL
  clear r0 q0 b0 hAe r1 w2
  have L1 : Hid (Below w.heap.size w (w.alloc (.cells #[.slice s0 n0 c0, .slice t0 m0 e0] 24))) := (Below.refl _ w).alloc (Nat.le_refl _) _
  have C1 : Hid (CB (w.alloc (.cells #[.slice s0 n0 c0, .slice t0 m0 e0] 24)) w.heap.size (.slice s0 n0 c0) (.slice t0 m0 e0)) := CB.new w _ _
  have R1 := Lib.hid (hV.keep (Nat.le_refl _) L1.out)
  have R2 := Lib.hid (hL.keep (Nat.le_refl _) L1.out)
  have R3 := Lib.hid (hA.keep (Nat.le_refl _) L1.out)
  have HLE := Lib.hid hle
  clear hle hV hL hA
  go_enter Try.func6, Try.ntmps6
  go_wp2_with fail
  refine (refgood_any s0 n0 c0 V t0 m0 e0 L _ R1.out R2.out HLE.out.1 HLE.out.2).mono ?_
  rintro e w1 ⟨rfl, hb⟩
  have L2 := Lib.hid (L1.out.trans (hb.mono L1.out.size))
  have C2 := Lib.hid (C1.out.below (Nat.le_refl _) hb)
  have S1 := Lib.hid (R1.out.keep (Nat.le_refl _) hb)
  have S2 := Lib.hid (R2.out.keep (Nat.le_refl _) hb)
  have S3 := Lib.hid (R3.out.keep (Nat.le_refl _) hb)
  clear hb L1 C1 R1 R2 R3
  cases hg : goodB V L
  · go_wp2_with fail
    refine (lives_any _).mono ?_
    rintro e w2 ⟨rfl, hb⟩
    have L3 := Lib.hid (L2.out.trans (hb.mono L2.out.size))
    clear hb
    go_wp2_with fail
    go_ret
    exact ⟨rfl, L3.out⟩
  have hp := good_parts hg
  have PV := Lib.hid (rises_pw hp.2.1)
  have P1 := Lib.hid (maj_self hp.1)
  have P2 := Lib.hid (maj_learners hp.2.2.2)
  have P3 := Lib.hid (maj_nil V)
  have P4 : Hid (majB V A = true → majB V (A ++ [a2]) = true) := maj_more a2
  have P5 : Hid (bI V a2 = false → majB V (A ++ [a2]) = majB V A) := maj_other
  have hn : n0 ≤ 1000 := by have := rises_len hp.2.1; have := S1.out.1; omega
  have hm : m0 ≤ 1000 := by have := rises_len hp.2.2.1; have := S2.out.1; omega
  clear hp hg
  by_cases h2 : (100 : Int) < (n1 : Int)
  · have h2' : decide ((100 : Int) < (n1 : Int)) = true := decide_eq_true h2
    go_wp2_with fail
    refine (lives_any _).mono ?_
    rintro e w2 ⟨rfl, hb⟩
    have L3 := Lib.hid (L2.out.trans (hb.mono L2.out.size))
    clear hb
    go_wp2_with fail
    go_ret
    exact ⟨rfl, L3.out⟩
  have h2' : decide ((100 : Int) < (n1 : Int)) = false := decide_eq_false h2
  have hn1 : n1 ≤ 100 := by omega
  go_upto_region 3 with fail
  clear h2 h2'
  go_cut [7] (fun p wx => ∃ (a' : Option Addr) (c' : Nat), p = .slice a' (n1 + 1) c' ∧ Rd wx a' (n1 + 1) (A ++ [a2]) ∧ Below w1.heap.size w1 wx)
  case first =>
    obtain ⟨i0, hi, hz0, hz1, hz2⟩ := info_parts Try.info3
    rcases HR1.out with ⟨rfl, rfl, rfl, rfl⟩ | ⟨x, rfl, hlc, hmc, hzc, hcell, hwz⟩
    · have hA0 : Hid (A = []) := HAe.out
      have hnew := cell_one_new (w1.alloc (.cells #[] 3)) (.int .i64 a2) 3
      rw [show (w1.alloc (.cells #[] 3)).heap.size = w1.heap.size + 1 by simp] at hnew
      have HN := Lib.hid hnew
      clear hnew
      go_wp2_with (at_builtin; refine wpList_append_own _ rfl _ _ 22 rfl w1.heap.size 3 i0 (.int .i64 0) 1 8 Try.underlying22 hi hz0 hz1 hz2 rfl (by decide) _ 0 [] rfl ((own_empty w1).alloc _) ⟨w1.heap.size + 1, 0, none⟩ 1 1 [.int .i64 a2] rfl rfl HN.out (by simp [Value.oneCell']) (by simp only [maxLen]; omega) (by omega) (by simp; omega) ?_; intro v2 w2 hown2 hgr2 _)
      have Q1 := Lib.hid (own_rd (l := A ++ [a2]) (by rw [hA0.out]; simpa using hown2))
      have Q2 : Hid (Below w1.heap.size w1 w2) := (((Below.refl _ w1).alloc (Nat.le_refl _) _).alloc (by simp) _).grown hgr2 (by simp; omega) (fun j ej => own_blk (own_empty w1) ej)
      clear hown2 hgr2
      obtain ⟨a', c', rfl, hq⟩ := Q1.out
      go_meet
      exact ⟨a', c', rfl, hq, Q2.out⟩
    · have hl1 : A.length = n1 := S3.out.1
      have hcells : ∀ j v, (A.map (Value.int .i64))[j]? = some v → (w1.alloc (.cells #[] 3)).cell? (x.add j) = some v := by
        intro j v hv
        have hj : j < n1 := by have := (List.getElem?_eq_some_iff.1 hv).1; simpa [hl1] using this
        rcases S3.out.2 with h0 | ⟨b, off, e, hall⟩
        · omega
        · cases e
          rw [Addr.add_lit]
          have h1 := hall j hj
          rw [World.cell?_alloc_lt _ _ _ (cell_block_lt h1), h1]
          rw [List.getElem?_map, List.getElem?_eq_getElem (by omega)] at hv
          rw [List.getD_eq_getElem?_getD, List.getElem?_eq_getElem (by omega)]
          simpa using hv
      have HC := Lib.hid hcells
      have h1c : Hid (∀ u ∈ A.map (Value.int .i64), u.oneCell' = true) := by
        show ∀ u ∈ _, _
        intro u hu
        obtain ⟨y, _, rfl⟩ := List.mem_map.1 hu
        rfl
      have HL1 := Lib.hid hl1
      clear hcells hl1 hcell hwz
      go_wp2_with (first
        | (at_builtin; refine wpList_append_own _ rfl _ _ 22 rfl w1.heap.size 3 i0 (.int .i64 0) 1 8 Try.underlying22 hi hz0 hz1 hz2 rfl (by decide) _ 0 [] rfl (own_empty w1) x n1 c1 (A.map (Value.int .i64)) rfl (by rw [List.length_map, HL1.out]; omega) HC.out h1c.out (by simp only [maxLen]; omega) (by omega) (by simp) ?_; intro v1 w2 hown1 hgr1 _; have hB1 : Below w1.heap.size w1 w2 := ((Below.refl _ w1).alloc (Nat.le_refl _) _).grown hgr1 (by simp) (fun j ej => own_blk (own_empty w1) ej); have hz1' := hB1.size; clear hgr1)
        | (at_builtin; refine wpList_append_own _ rfl _ _ 22 rfl w1.heap.size 3 i0 (.int .i64 0) 1 8 Try.underlying22 hi hz0 hz1 hz2 rfl (by decide) _ _ _ rfl (hown1.alloc _) ⟨w2.heap.size, 0, none⟩ 1 1 [.int .i64 a2] rfl rfl (cell_one_new _ _ _) (by simp [Value.oneCell']) (by simp only [maxLen]; omega) (by omega) (by simp; omega) ?_; intro v2 w3 hown2 hgr2 _))
      have Q1 := Lib.hid (own_rd (l := A ++ [a2]) (by simpa using hown2))
      have Q2 : Hid (Below w1.heap.size w1 w3) := (hB1.alloc hB1.size _).grown hgr2 (by simp; omega) (fun j ej => own_blk hown1 ej)
      clear hown2 hgr2 hown1 hB1
      obtain ⟨a', c', rfl, hq⟩ := Q1.out
      go_meet
      exact ⟨a', c', rfl, hq, Q2.out⟩
  case rest =>
    obtain ⟨p1, k1, rfl, hq, hbw⟩ := hcut
    have C0 := Lib.hid (C2.out.below (Nat.le_refl _) hbw)
    have T10 := Lib.hid (S1.out.keep (Nat.le_refl _) hbw)
    have T20 := Lib.hid (S2.out.keep (Nat.le_refl _) hbw)
    have T30 := Lib.hid (S3.out.keep (Nat.le_refl _) hbw)
    have T40 := Lib.hid hq
    have B0 := Lib.hid (L2.out.trans (hbw.mono L2.out.size))
    clear hq hbw C2 S1 S2 S3 L2
    have f0 := C0.out.c0
    have f1 := C0.out.c1
    go_wp2_with fail
    refine (maj_any s0 n0 c0 V _ s0 n0 c0 V _ T10.out T10.out hn hn PV.out.1 ⟨_, _, _, rfl⟩).mono ?_
    rintro e u1 ⟨rfl, hb⟩
    rw [P1.out]
    clear f0 f1
    have C1 := Lib.hid (C0.out.below (Nat.le_refl _) hb)
    have T11 := Lib.hid (T10.out.keep (Nat.le_refl _) hb)
    have T21 := Lib.hid (T20.out.keep (Nat.le_refl _) hb)
    have T31 := Lib.hid (T30.out.keep (Nat.le_refl _) hb)
    have T41 := Lib.hid (T40.out.keep (Nat.le_refl _) hb)
    have B1 := Lib.hid (B0.out.trans (hb.mono B0.out.size))
    clear hb C0 T10 T20 T30 T40 B0
    have f0 := C1.out.c0
    have f1 := C1.out.c1
    go_wp2_with fail
    refine (maj_any s0 n0 c0 V _ t0 m0 e0 L _ T11.out T21.out hn hm PV.out.1 ⟨_, _, _, rfl⟩).mono ?_
    rintro e u2 ⟨rfl, hb⟩
    rw [P2.out]
    clear f0 f1
    have C2 := Lib.hid (C1.out.below (Nat.le_refl _) hb)
    have T12 := Lib.hid (T11.out.keep (Nat.le_refl _) hb)
    have T22 := Lib.hid (T21.out.keep (Nat.le_refl _) hb)
    have T32 := Lib.hid (T31.out.keep (Nat.le_refl _) hb)
    have T42 := Lib.hid (T41.out.keep (Nat.le_refl _) hb)
    have B2 := Lib.hid (B1.out.trans (hb.mono B1.out.size))
    clear hb C1 T11 T21 T31 T41 B1
    have f0 := C2.out.c0
    have f1 := C2.out.c1
    go_wp2_with fail
    refine (maj_any s0 n0 c0 V _ none 0 0 [] _ T12.out ⟨rfl, .inl rfl⟩ hn (by omega) PV.out.1 ⟨_, _, _, rfl⟩).mono ?_
    rintro e u3 ⟨rfl, hb⟩
    rw [P3.out]
    clear f0 f1
    have C3 := Lib.hid (C2.out.below (Nat.le_refl _) hb)
    have T13 := Lib.hid (T12.out.keep (Nat.le_refl _) hb)
    have T23 := Lib.hid (T22.out.keep (Nat.le_refl _) hb)
    have T33 := Lib.hid (T32.out.keep (Nat.le_refl _) hb)
    have T43 := Lib.hid (T42.out.keep (Nat.le_refl _) hb)
    have B3 := Lib.hid (B2.out.trans (hb.mono B2.out.size))
    clear hb C2 T12 T22 T32 T42 B2
    have f0 := C3.out.c0
    have f1 := C3.out.c1
    go_wp2_with fail
    refine (maj_any s0 n0 c0 V _ s1 n1 c1 A _ T13.out T33.out hn (by omega) PV.out.1 ⟨_, _, _, rfl⟩).mono ?_
    rintro e u4 ⟨rfl, hb⟩
    clear f0 f1
    have C4 := Lib.hid (C3.out.below (Nat.le_refl _) hb)
    have T14 := Lib.hid (T13.out.keep (Nat.le_refl _) hb)
    have T24 := Lib.hid (T23.out.keep (Nat.le_refl _) hb)
    have T34 := Lib.hid (T33.out.keep (Nat.le_refl _) hb)
    have T44 := Lib.hid (T43.out.keep (Nat.le_refl _) hb)
    have B4 := Lib.hid (B3.out.trans (hb.mono B3.out.size))
    clear hb C3 T13 T23 T33 T43 B3
    have f0 := C4.out.c0
    have f1 := C4.out.c1
    cases hq : majB V A
    · have HQ := Lib.hid hq
      clear hq
      go_upto_region 6 with fail
      have KS : Hid (∀ W, Below u4.heap.size u4 W → W.cell? ⟨w.heap.size, 0, none⟩ = some (.slice s0 n0 c0) ∧ W.cell? ⟨w.heap.size, 1, none⟩ = some (.slice t0 m0 e0) ∧ Below u4.heap.size u4 W) := by
        show ∀ W, _
        intro W h
        exact ⟨(C4.out.below (Nat.le_refl _) h).c0, (C4.out.below (Nat.le_refl _) h).c1, h⟩
      clear f0 f1
      cases hv : bI V a2
      · have HV := Lib.hid hv
        have P7 := Lib.hid (P5.out hv)
        clear hv
        go_region_held3 (fun W => W.cell? ⟨w.heap.size, 0, none⟩ = some (.slice s0 n0 c0) ∧ W.cell? ⟨w.heap.size, 1, none⟩ = some (.slice t0 m0 e0) ∧ Below u4.heap.size u4 W)
          (first | exact KS.out _ (Below.refl _ _) | exact KS.out _ (by assumption) | exact KS.out _ (held_below (by assumption)) | exact KS.out _ (Below.refl _ _).drew)
          (first
            | (go_at_call 19; refine (chas_from u4 s0 n0 c0 V a2 _ T14.out hn (held_below (by assumption))).mono ?_; rintro e w' ⟨rfl, hb1⟩; rw [HV.out])
            | (go_at_call_of 18 (Value.slice s1 n1 c1); refine (maj_from u4 s0 n0 c0 V _ s1 n1 c1 A _ T14.out T34.out hn (by omega) PV.out.1 ⟨_, _, _, rfl⟩ (held_below (by assumption))).mono ?_; rintro e w' ⟨rfl, hb2⟩; rw [HQ.out])
            | (go_at_call 18; refine (maj_from u4 s0 n0 c0 V _ p1 (n1 + 1) k1 (A ++ [a2]) _ T14.out T44.out hn (by omega) PV.out.1 ⟨_, _, _, rfl⟩ (held_below (by assumption))).mono ?_; rintro e w' ⟨rfl, hb3⟩; rw [P7.out, HQ.out])
            | (go_at_call 9; refine (lives_from u4 _ (held_below (by assumption))).mono ?_; rintro e w' ⟨rfl, hb4⟩))
        all_goals (
          rename_i hHeld
          have HH := Lib.hid (held_below hHeld)
          clear hHeld
          go_wp2_with fail
          go_ret
          exact ⟨rfl, B4.out.trans (HH.out.mono B4.out.size)⟩)

      · have HV := Lib.hid hv
        clear hv
        refine wp_region_held_drew (S := fun W => W.cell? ⟨w.heap.size, 0, none⟩ = some (.slice s0 n0 c0) ∧ W.cell? ⟨w.heap.size, 1, none⟩ = some (.slice t0 m0 e0) ∧ Below u4.heap.size u4 W) (by kernel_rfl) (KS.out _ (Below.refl _ _).drew) (fun hHeld => ?_)
        refine wpAnyH_take (i := 0) (oi := { dst := some 49, op := Op.fieldAddr 24 (Operand.tmp 3) 0, type := 0, pos := "law.go:96", after := #[], guard := none }) (v := .pointer (some ⟨w.heap.size, 0, none⟩)) rfl (by kernel_rfl) (by kernel_rfl) (by kernel_rfl) (fun _ _ _ h => h) (Or.inl ⟨by rfl, ?_⟩) (by assumption) ?_
        · intro W hSw
          try dsimp only at hSw
          go_simp
        try simp only [Act.put, List.setIfInBounds_toArray, List.set_cons_zero, List.set_cons_succ]
        refine wpAnyH_take (i := 1) (oi := { dst := some 50, op := Op.load 22 (Operand.tmp 49), type := 22, pos := "law.go:96", after := #[{ on := 0, ground := Ground.data }], guard := none }) (v := .slice s0 n0 c0) rfl (by kernel_rfl) (by kernel_rfl) (by kernel_rfl) (fun _ _ _ h => h) (Or.inl ⟨by rfl, ?_⟩) (by assumption) ?_
        · intro W hSw
          try dsimp only at hSw
          go_simp
        try simp only [Act.put, List.setIfInBounds_toArray, List.set_cons_zero, List.set_cons_succ]
        refine wpAnyH_take (i := 2) (oi := { dst := some 51, op := Op.move (Operand.tmp 2), type := 3, pos := "law.go:96", after := #[], guard := none }) (v := .int .i64 a2) rfl (by kernel_rfl) (by kernel_rfl) (by kernel_rfl) (fun _ _ _ h => h) (Or.inl ⟨by rfl, ?_⟩) (by assumption) ?_
        · intro W hSw
          try dsimp only at hSw
          go_simp
        try simp only [Act.put, List.setIfInBounds_toArray, List.set_cons_zero, List.set_cons_succ]
        refine wpAnyH_ready (rs := [3]) (by kernel_rfl) (by simp) ?_
        refine AllReadyH.cons (o := { dst := some 52, op := Op.call { callee := Callee.value (Operand.func 19), args := #[Operand.tmp 50, Operand.tmp 51], argTypes := #[22, 3] }, type := 4, pos := "law.go:96", after := #[{ on := 1, ground := Ground.data }, { on := 2, ground := Ground.data }], guard := none }) rfl (fun K hK => ?_) AllReadyH.nil
        go_simp
        refine (chas_from u4 s0 n0 c0 V a2 _ T14.out hn (held_below hHeld)).mono ?_
        rintro e w5 ⟨rfl, hb1⟩
        rw [HV.out]
        go_wp2_with fail
        refine hK.out _ _ ?_ (fun hHeld => ?_)
        · exact KS.out _ hb1
        clear hK K
        try simp only [Act.put, List.setIfInBounds_toArray, List.set_cons_zero, List.set_cons_succ]
        refine wpAnyH_take (i := 4) (oi := { dst := some 53, op := Op.move (Operand.tmp 52), type := 4, pos := "law.go:96", after := #[{ on := 3, ground := Ground.data }, { on := 3, ground := Ground.chain }], guard := none }) (v := .bool true) rfl (by kernel_rfl) (by kernel_rfl) (by kernel_rfl) (fun _ _ _ h => h) (Or.inl ⟨by rfl, ?_⟩) (by assumption) ?_
        · intro W hSw
          try dsimp only at hSw
          go_simp
        try simp only [Act.put, List.setIfInBounds_toArray, List.set_cons_zero, List.set_cons_succ]
        refine wpAnyH_take (i := 5) (oi := { dst := some 54, op := Op.load 24 (Operand.tmp 3), type := 24, pos := "law.go:96", after := #[{ on := 4, ground := Ground.guard }], guard := some (4, false) }) (v := undef) rfl (by kernel_rfl) (by kernel_rfl) (by kernel_rfl) (fun _ _ _ h => h) (Or.inr ⟨by rfl, rfl⟩) (by assumption) ?_
        try simp only [Act.put, List.setIfInBounds_toArray, List.set_cons_zero, List.set_cons_succ]
        refine wpAnyH_take (i := 6) (oi := { dst := some 55, op := Op.move (Operand.tmp 1), type := 22, pos := "law.go:96", after := #[{ on := 4, ground := Ground.guard }], guard := some (4, false) }) (v := undef) rfl (by kernel_rfl) (by kernel_rfl) (by kernel_rfl) (fun _ _ _ h => h) (Or.inr ⟨by rfl, rfl⟩) (by assumption) ?_
        try simp only [Act.put, List.setIfInBounds_toArray, List.set_cons_zero, List.set_cons_succ]
        refine wpAnyH_take (i := 7) (oi := { dst := some 56, op := Op.call { callee := Callee.value (Operand.func 18), args := #[Operand.tmp 54, Operand.tmp 55], argTypes := #[24, 22] }, type := 4, pos := "law.go:96", after := #[{ on := 5, ground := Ground.data }, { on := 6, ground := Ground.data }, { on := 4, ground := Ground.chain }, { on := 4, ground := Ground.guard }], guard := some (4, false) }) (v := undef) rfl (by kernel_rfl) (by kernel_rfl) (by kernel_rfl) (fun _ _ _ h => h) (Or.inr ⟨by rfl, rfl⟩) (by assumption) ?_
        try simp only [Act.put, List.setIfInBounds_toArray, List.set_cons_zero, List.set_cons_succ]
        refine wpAnyH_take (i := 8) (oi := { dst := some 57, op := Op.load 24 (Operand.tmp 3), type := 24, pos := "law.go:96", after := #[{ on := 4, ground := Ground.guard }], guard := some (4, false) }) (v := undef) rfl (by kernel_rfl) (by kernel_rfl) (by kernel_rfl) (fun _ _ _ h => h) (Or.inr ⟨by rfl, rfl⟩) (by assumption) ?_
        try simp only [Act.put, List.setIfInBounds_toArray, List.set_cons_zero, List.set_cons_succ]
        refine wpAnyH_take (i := 9) (oi := { dst := some 58, op := Op.move (Operand.tmp 7), type := 22, pos := "law.go:96", after := #[{ on := 4, ground := Ground.guard }], guard := some (4, false) }) (v := undef) rfl (by kernel_rfl) (by kernel_rfl) (by kernel_rfl) (fun _ _ _ h => h) (Or.inr ⟨by rfl, rfl⟩) (by assumption) ?_
        try simp only [Act.put, List.setIfInBounds_toArray, List.set_cons_zero, List.set_cons_succ]
        refine wpAnyH_take (i := 10) (oi := { dst := some 59, op := Op.call { callee := Callee.value (Operand.func 18), args := #[Operand.tmp 57, Operand.tmp 58], argTypes := #[24, 22] }, type := 4, pos := "law.go:96", after := #[{ on := 8, ground := Ground.data }, { on := 9, ground := Ground.data }, { on := 7, ground := Ground.chain }, { on := 4, ground := Ground.guard }], guard := some (4, false) }) (v := undef) rfl (by kernel_rfl) (by kernel_rfl) (by kernel_rfl) (fun _ _ _ h => h) (Or.inr ⟨by rfl, rfl⟩) (by assumption) ?_
        try simp only [Act.put, List.setIfInBounds_toArray, List.set_cons_zero, List.set_cons_succ]
        refine wpAnyH_take (i := 11) (oi := { dst := some 60, op := Op.binOp BinOp.eql 4 (Operand.tmp 56) (Operand.tmp 59) 4, type := 4, pos := "law.go:96", after := #[{ on := 7, ground := Ground.data }, { on := 10, ground := Ground.data }, { on := 4, ground := Ground.guard }], guard := some (4, false) }) (v := undef) rfl (by kernel_rfl) (by kernel_rfl) (by kernel_rfl) (fun _ _ _ h => h) (Or.inr ⟨by rfl, rfl⟩) (by assumption) ?_
        try simp only [Act.put, List.setIfInBounds_toArray, List.set_cons_zero, List.set_cons_succ]
        refine wpAnyH_take (i := 12) (oi := { dst := some 61, op := Op.pick (Operand.tmp 53) (Operand.const (Value.bool true)) (Operand.tmp 60), type := 4, pos := "law.go:96", after := #[{ on := 4, ground := Ground.data }, { on := 11, ground := Ground.data }], guard := none }) (v := .bool true) rfl (by kernel_rfl) (by kernel_rfl) (by kernel_rfl) (fun _ _ _ h => h) (Or.inl ⟨by rfl, ?_⟩) (by assumption) ?_
        · intro W hSw
          try dsimp only at hSw
          go_simp
        try simp only [Act.put, List.setIfInBounds_toArray, List.set_cons_zero, List.set_cons_succ]
        refine wpAnyH_take (i := 13) (oi := { dst := some 62, op := Op.move (Operand.tmp 61), type := 4, pos := "law.go:96", after := #[{ on := 12, ground := Ground.data }, { on := 10, ground := Ground.chain }], guard := none }) (v := .bool true) rfl (by kernel_rfl) (by kernel_rfl) (by kernel_rfl) (fun _ _ _ h => h) (Or.inl ⟨by rfl, ?_⟩) (by assumption) ?_
        · intro W hSw
          try dsimp only at hSw
          go_simp
        try simp only [Act.put, List.setIfInBounds_toArray, List.set_cons_zero, List.set_cons_succ]
        refine wpAnyH_ready (rs := [14]) (by kernel_rfl) (by simp) ?_
        refine AllReadyH.cons (o := { dst := some 63, op := Op.call { callee := Callee.value (Operand.func 9), args := #[], argTypes := #[] }, type := 4, pos := "law.go:96", after := #[{ on := 13, ground := Ground.chain }, { on := 13, ground := Ground.guard }], guard := some (13, true) }) rfl (fun K hK => ?_) AllReadyH.nil
        go_simp
        refine (lives_from u4 _ (held_below (by assumption))).mono ?_
        clear hb1
        rintro e w6 ⟨rfl, hb1⟩
        go_wp2_with fail
        refine hK.out _ _ ?_ (fun hHeld => ?_)
        · exact KS.out _ hb1
        clear hK K
        try simp only [Act.put, List.setIfInBounds_toArray, List.set_cons_zero, List.set_cons_succ]
        refine wpAnyH_take (i := 15) (oi := { dst := some 64, op := Op.pick (Operand.tmp 62) (Operand.tmp 63) (Operand.const (Value.bool false)), type := 4, pos := "law.go:96", after := #[{ on := 13, ground := Ground.data }, { on := 14, ground := Ground.data }], guard := none }) (v := .bool true) rfl (by kernel_rfl) (by kernel_rfl) (by kernel_rfl) (fun _ _ _ h => h) (Or.inl ⟨by rfl, ?_⟩) (by assumption) ?_
        · intro W hSw
          try dsimp only at hSw
          go_simp
        try simp only [Act.put, List.setIfInBounds_toArray, List.set_cons_zero, List.set_cons_succ]
        refine wpAnyH_take (i := 16) (oi := { dst := some 6, op := Op.assign (Operand.tmp 64), type := 4, pos := "law.go:96", after := #[{ on := 15, ground := Ground.data }, { on := 14, ground := Ground.chain }, { on := 0, ground := Ground.phase }, { on := 1, ground := Ground.phase }, { on := 2, ground := Ground.phase }, { on := 3, ground := Ground.phase }, { on := 4, ground := Ground.phase }, { on := 5, ground := Ground.phase }, { on := 6, ground := Ground.phase }, { on := 7, ground := Ground.phase }, { on := 8, ground := Ground.phase }, { on := 9, ground := Ground.phase }, { on := 10, ground := Ground.phase }, { on := 11, ground := Ground.phase }, { on := 12, ground := Ground.phase }, { on := 13, ground := Ground.phase }, { on := 14, ground := Ground.phase }, { on := 15, ground := Ground.phase }], guard := none }) (v := .bool true) rfl (by kernel_rfl) (by kernel_rfl) (by kernel_rfl) (fun _ _ _ h => h) (Or.inl ⟨by rfl, ?_⟩) (by assumption) ?_
        · intro W hSw
          try dsimp only at hSw
          go_simp
        try simp only [Act.put, List.setIfInBounds_toArray, List.set_cons_zero, List.set_cons_succ]
        refine wpAnyH_done (by kernel_rfl) ?_ _
        rename_i hHeld2
        have HH := Lib.hid hb1
        clear hHeld2 hb1
        go_wp2_with fail
        go_ret
        exact ⟨rfl, B4.out.trans (HH.out.mono B4.out.size)⟩

    · have HQ := Lib.hid hq
      have P6 := Lib.hid (P4.out hq)
      clear hq
      go_wp2_with fail
      refine (maj_any s0 n0 c0 V _ p1 (n1 + 1) k1 (A ++ [a2]) _ T14.out T44.out hn (by omega) PV.out.1 ⟨_, _, _, rfl⟩).mono ?_
      rintro e u5 ⟨rfl, hb⟩
      rw [P6.out]
      clear f0 f1
      have C5 := Lib.hid (C4.out.below (Nat.le_refl _) hb)
      have T15 := Lib.hid (T14.out.keep (Nat.le_refl _) hb)
      have T25 := Lib.hid (T24.out.keep (Nat.le_refl _) hb)
      have T35 := Lib.hid (T34.out.keep (Nat.le_refl _) hb)
      have T45 := Lib.hid (T44.out.keep (Nat.le_refl _) hb)
      have B5 := Lib.hid (B4.out.trans (hb.mono B4.out.size))
      clear hb C4 T14 T24 T34 T44 B4
      have f0 := C5.out.c0
      have f1 := C5.out.c1
      go_upto_region 6 with fail
      have KS : Hid (∀ W, Below u5.heap.size u5 W → W.cell? ⟨w.heap.size, 0, none⟩ = some (.slice s0 n0 c0) ∧ W.cell? ⟨w.heap.size, 1, none⟩ = some (.slice t0 m0 e0) ∧ Below u5.heap.size u5 W) := by
        show ∀ W, _
        intro W h
        exact ⟨(C5.out.below (Nat.le_refl _) h).c0, (C5.out.below (Nat.le_refl _) h).c1, h⟩
      clear f0 f1
      cases hv : bI V a2
      · have HV := Lib.hid hv
        have P7 := Lib.hid (P5.out hv)
        clear hv
        go_region_held3 (fun W => W.cell? ⟨w.heap.size, 0, none⟩ = some (.slice s0 n0 c0) ∧ W.cell? ⟨w.heap.size, 1, none⟩ = some (.slice t0 m0 e0) ∧ Below u5.heap.size u5 W)
          (first | exact KS.out _ (Below.refl _ _) | exact KS.out _ (by assumption) | exact KS.out _ (held_below (by assumption)) | exact KS.out _ (Below.refl _ _).drew)
          (first
            | (go_at_call 19; refine (chas_from u5 s0 n0 c0 V a2 _ T15.out hn (held_below (by assumption))).mono ?_; rintro e w' ⟨rfl, hb1⟩; rw [HV.out])
            | (go_at_call_of 18 (Value.slice s1 n1 c1); refine (maj_from u5 s0 n0 c0 V _ s1 n1 c1 A _ T15.out T35.out hn (by omega) PV.out.1 ⟨_, _, _, rfl⟩ (held_below (by assumption))).mono ?_; rintro e w' ⟨rfl, hb2⟩; rw [HQ.out])
            | (go_at_call 18; refine (maj_from u5 s0 n0 c0 V _ p1 (n1 + 1) k1 (A ++ [a2]) _ T15.out T45.out hn (by omega) PV.out.1 ⟨_, _, _, rfl⟩ (held_below (by assumption))).mono ?_; rintro e w' ⟨rfl, hb3⟩; rw [P7.out, HQ.out])
            | (go_at_call 9; refine (lives_from u5 _ (held_below (by assumption))).mono ?_; rintro e w' ⟨rfl, hb4⟩))
        all_goals (
          rename_i hHeld
          have HH := Lib.hid (held_below hHeld)
          clear hHeld
          go_wp2_with fail
          go_ret
          exact ⟨rfl, B5.out.trans (HH.out.mono B5.out.size)⟩)

      · have HV := Lib.hid hv
        clear hv
        refine wp_region_held_drew (S := fun W => W.cell? ⟨w.heap.size, 0, none⟩ = some (.slice s0 n0 c0) ∧ W.cell? ⟨w.heap.size, 1, none⟩ = some (.slice t0 m0 e0) ∧ Below u5.heap.size u5 W) (by kernel_rfl) (KS.out _ (Below.refl _ _).drew) (fun hHeld => ?_)
        refine wpAnyH_take (i := 0) (oi := { dst := some 49, op := Op.fieldAddr 24 (Operand.tmp 3) 0, type := 0, pos := "law.go:96", after := #[], guard := none }) (v := .pointer (some ⟨w.heap.size, 0, none⟩)) rfl (by kernel_rfl) (by kernel_rfl) (by kernel_rfl) (fun _ _ _ h => h) (Or.inl ⟨by rfl, ?_⟩) (by assumption) ?_
        · intro W hSw
          try dsimp only at hSw
          go_simp
        try simp only [Act.put, List.setIfInBounds_toArray, List.set_cons_zero, List.set_cons_succ]
        refine wpAnyH_take (i := 1) (oi := { dst := some 50, op := Op.load 22 (Operand.tmp 49), type := 22, pos := "law.go:96", after := #[{ on := 0, ground := Ground.data }], guard := none }) (v := .slice s0 n0 c0) rfl (by kernel_rfl) (by kernel_rfl) (by kernel_rfl) (fun _ _ _ h => h) (Or.inl ⟨by rfl, ?_⟩) (by assumption) ?_
        · intro W hSw
          try dsimp only at hSw
          go_simp
        try simp only [Act.put, List.setIfInBounds_toArray, List.set_cons_zero, List.set_cons_succ]
        refine wpAnyH_take (i := 2) (oi := { dst := some 51, op := Op.move (Operand.tmp 2), type := 3, pos := "law.go:96", after := #[], guard := none }) (v := .int .i64 a2) rfl (by kernel_rfl) (by kernel_rfl) (by kernel_rfl) (fun _ _ _ h => h) (Or.inl ⟨by rfl, ?_⟩) (by assumption) ?_
        · intro W hSw
          try dsimp only at hSw
          go_simp
        try simp only [Act.put, List.setIfInBounds_toArray, List.set_cons_zero, List.set_cons_succ]
        refine wpAnyH_ready (rs := [3]) (by kernel_rfl) (by simp) ?_
        refine AllReadyH.cons (o := { dst := some 52, op := Op.call { callee := Callee.value (Operand.func 19), args := #[Operand.tmp 50, Operand.tmp 51], argTypes := #[22, 3] }, type := 4, pos := "law.go:96", after := #[{ on := 1, ground := Ground.data }, { on := 2, ground := Ground.data }], guard := none }) rfl (fun K hK => ?_) AllReadyH.nil
        go_simp
        refine (chas_from u5 s0 n0 c0 V a2 _ T15.out hn (held_below hHeld)).mono ?_
        rintro e w5 ⟨rfl, hb1⟩
        rw [HV.out]
        go_wp2_with fail
        refine hK.out _ _ ?_ (fun hHeld => ?_)
        · exact KS.out _ hb1
        clear hK K
        try simp only [Act.put, List.setIfInBounds_toArray, List.set_cons_zero, List.set_cons_succ]
        refine wpAnyH_take (i := 4) (oi := { dst := some 53, op := Op.move (Operand.tmp 52), type := 4, pos := "law.go:96", after := #[{ on := 3, ground := Ground.data }, { on := 3, ground := Ground.chain }], guard := none }) (v := .bool true) rfl (by kernel_rfl) (by kernel_rfl) (by kernel_rfl) (fun _ _ _ h => h) (Or.inl ⟨by rfl, ?_⟩) (by assumption) ?_
        · intro W hSw
          try dsimp only at hSw
          go_simp
        try simp only [Act.put, List.setIfInBounds_toArray, List.set_cons_zero, List.set_cons_succ]
        refine wpAnyH_take (i := 5) (oi := { dst := some 54, op := Op.load 24 (Operand.tmp 3), type := 24, pos := "law.go:96", after := #[{ on := 4, ground := Ground.guard }], guard := some (4, false) }) (v := undef) rfl (by kernel_rfl) (by kernel_rfl) (by kernel_rfl) (fun _ _ _ h => h) (Or.inr ⟨by rfl, rfl⟩) (by assumption) ?_
        try simp only [Act.put, List.setIfInBounds_toArray, List.set_cons_zero, List.set_cons_succ]
        refine wpAnyH_take (i := 6) (oi := { dst := some 55, op := Op.move (Operand.tmp 1), type := 22, pos := "law.go:96", after := #[{ on := 4, ground := Ground.guard }], guard := some (4, false) }) (v := undef) rfl (by kernel_rfl) (by kernel_rfl) (by kernel_rfl) (fun _ _ _ h => h) (Or.inr ⟨by rfl, rfl⟩) (by assumption) ?_
        try simp only [Act.put, List.setIfInBounds_toArray, List.set_cons_zero, List.set_cons_succ]
        refine wpAnyH_take (i := 7) (oi := { dst := some 56, op := Op.call { callee := Callee.value (Operand.func 18), args := #[Operand.tmp 54, Operand.tmp 55], argTypes := #[24, 22] }, type := 4, pos := "law.go:96", after := #[{ on := 5, ground := Ground.data }, { on := 6, ground := Ground.data }, { on := 4, ground := Ground.chain }, { on := 4, ground := Ground.guard }], guard := some (4, false) }) (v := undef) rfl (by kernel_rfl) (by kernel_rfl) (by kernel_rfl) (fun _ _ _ h => h) (Or.inr ⟨by rfl, rfl⟩) (by assumption) ?_
        try simp only [Act.put, List.setIfInBounds_toArray, List.set_cons_zero, List.set_cons_succ]
        refine wpAnyH_take (i := 8) (oi := { dst := some 57, op := Op.load 24 (Operand.tmp 3), type := 24, pos := "law.go:96", after := #[{ on := 4, ground := Ground.guard }], guard := some (4, false) }) (v := undef) rfl (by kernel_rfl) (by kernel_rfl) (by kernel_rfl) (fun _ _ _ h => h) (Or.inr ⟨by rfl, rfl⟩) (by assumption) ?_
        try simp only [Act.put, List.setIfInBounds_toArray, List.set_cons_zero, List.set_cons_succ]
        refine wpAnyH_take (i := 9) (oi := { dst := some 58, op := Op.move (Operand.tmp 7), type := 22, pos := "law.go:96", after := #[{ on := 4, ground := Ground.guard }], guard := some (4, false) }) (v := undef) rfl (by kernel_rfl) (by kernel_rfl) (by kernel_rfl) (fun _ _ _ h => h) (Or.inr ⟨by rfl, rfl⟩) (by assumption) ?_
        try simp only [Act.put, List.setIfInBounds_toArray, List.set_cons_zero, List.set_cons_succ]
        refine wpAnyH_take (i := 10) (oi := { dst := some 59, op := Op.call { callee := Callee.value (Operand.func 18), args := #[Operand.tmp 57, Operand.tmp 58], argTypes := #[24, 22] }, type := 4, pos := "law.go:96", after := #[{ on := 8, ground := Ground.data }, { on := 9, ground := Ground.data }, { on := 7, ground := Ground.chain }, { on := 4, ground := Ground.guard }], guard := some (4, false) }) (v := undef) rfl (by kernel_rfl) (by kernel_rfl) (by kernel_rfl) (fun _ _ _ h => h) (Or.inr ⟨by rfl, rfl⟩) (by assumption) ?_
        try simp only [Act.put, List.setIfInBounds_toArray, List.set_cons_zero, List.set_cons_succ]
        refine wpAnyH_take (i := 11) (oi := { dst := some 60, op := Op.binOp BinOp.eql 4 (Operand.tmp 56) (Operand.tmp 59) 4, type := 4, pos := "law.go:96", after := #[{ on := 7, ground := Ground.data }, { on := 10, ground := Ground.data }, { on := 4, ground := Ground.guard }], guard := some (4, false) }) (v := undef) rfl (by kernel_rfl) (by kernel_rfl) (by kernel_rfl) (fun _ _ _ h => h) (Or.inr ⟨by rfl, rfl⟩) (by assumption) ?_
        try simp only [Act.put, List.setIfInBounds_toArray, List.set_cons_zero, List.set_cons_succ]
        refine wpAnyH_take (i := 12) (oi := { dst := some 61, op := Op.pick (Operand.tmp 53) (Operand.const (Value.bool true)) (Operand.tmp 60), type := 4, pos := "law.go:96", after := #[{ on := 4, ground := Ground.data }, { on := 11, ground := Ground.data }], guard := none }) (v := .bool true) rfl (by kernel_rfl) (by kernel_rfl) (by kernel_rfl) (fun _ _ _ h => h) (Or.inl ⟨by rfl, ?_⟩) (by assumption) ?_
        · intro W hSw
          try dsimp only at hSw
          go_simp
        try simp only [Act.put, List.setIfInBounds_toArray, List.set_cons_zero, List.set_cons_succ]
        refine wpAnyH_take (i := 13) (oi := { dst := some 62, op := Op.move (Operand.tmp 61), type := 4, pos := "law.go:96", after := #[{ on := 12, ground := Ground.data }, { on := 10, ground := Ground.chain }], guard := none }) (v := .bool true) rfl (by kernel_rfl) (by kernel_rfl) (by kernel_rfl) (fun _ _ _ h => h) (Or.inl ⟨by rfl, ?_⟩) (by assumption) ?_
        · intro W hSw
          try dsimp only at hSw
          go_simp
        try simp only [Act.put, List.setIfInBounds_toArray, List.set_cons_zero, List.set_cons_succ]
        refine wpAnyH_ready (rs := [14]) (by kernel_rfl) (by simp) ?_
        refine AllReadyH.cons (o := { dst := some 63, op := Op.call { callee := Callee.value (Operand.func 9), args := #[], argTypes := #[] }, type := 4, pos := "law.go:96", after := #[{ on := 13, ground := Ground.chain }, { on := 13, ground := Ground.guard }], guard := some (13, true) }) rfl (fun K hK => ?_) AllReadyH.nil
        go_simp
        refine (lives_from u5 _ (held_below (by assumption))).mono ?_
        clear hb1
        rintro e w6 ⟨rfl, hb1⟩
        go_wp2_with fail
        refine hK.out _ _ ?_ (fun hHeld => ?_)
        · exact KS.out _ hb1
        clear hK K
        try simp only [Act.put, List.setIfInBounds_toArray, List.set_cons_zero, List.set_cons_succ]
        refine wpAnyH_take (i := 15) (oi := { dst := some 64, op := Op.pick (Operand.tmp 62) (Operand.tmp 63) (Operand.const (Value.bool false)), type := 4, pos := "law.go:96", after := #[{ on := 13, ground := Ground.data }, { on := 14, ground := Ground.data }], guard := none }) (v := .bool true) rfl (by kernel_rfl) (by kernel_rfl) (by kernel_rfl) (fun _ _ _ h => h) (Or.inl ⟨by rfl, ?_⟩) (by assumption) ?_
        · intro W hSw
          try dsimp only at hSw
          go_simp
        try simp only [Act.put, List.setIfInBounds_toArray, List.set_cons_zero, List.set_cons_succ]
        refine wpAnyH_take (i := 16) (oi := { dst := some 6, op := Op.assign (Operand.tmp 64), type := 4, pos := "law.go:96", after := #[{ on := 15, ground := Ground.data }, { on := 14, ground := Ground.chain }, { on := 0, ground := Ground.phase }, { on := 1, ground := Ground.phase }, { on := 2, ground := Ground.phase }, { on := 3, ground := Ground.phase }, { on := 4, ground := Ground.phase }, { on := 5, ground := Ground.phase }, { on := 6, ground := Ground.phase }, { on := 7, ground := Ground.phase }, { on := 8, ground := Ground.phase }, { on := 9, ground := Ground.phase }, { on := 10, ground := Ground.phase }, { on := 11, ground := Ground.phase }, { on := 12, ground := Ground.phase }, { on := 13, ground := Ground.phase }, { on := 14, ground := Ground.phase }, { on := 15, ground := Ground.phase }], guard := none }) (v := .bool true) rfl (by kernel_rfl) (by kernel_rfl) (by kernel_rfl) (fun _ _ _ h => h) (Or.inl ⟨by rfl, ?_⟩) (by assumption) ?_
        · intro W hSw
          try dsimp only at hSw
          go_simp
        try simp only [Act.put, List.setIfInBounds_toArray, List.set_cons_zero, List.set_cons_succ]
        refine wpAnyH_done (by kernel_rfl) ?_ _
        rename_i hHeld2
        have HH := Lib.hid hb1
        clear hHeld2 hb1
        go_wp2_with fail
        go_ret
        exact ⟨rfl, B5.out.trans (HH.out.mono B5.out.size)⟩

theorem lifted (os : Os) (started : os.Started) (H : Type) (enc : TypeId × Value → H) :
    ReturnsInHanded {} Try.checked os 6 .any (Rows.confAllSpec.pre6 enc Try.prog Try.f6 Rows.confAllRow.domain false) (Rows.confAllSpec.post enc Try.prog Try.f6 false true false false) := by
  refine returnsInHanded_of_change_sized (C := Try.checked) own started (by kernel_rfl) Try.func6
    (ChangeSpec.witness6 (enc := enc) (C := Try.checked) false ⟨#[], #[.agg #[.slice none 0 0, .slice none 0 0], .slice none 0 0, .int .i64 0], []⟩ 8 (by kernel_rfl) (by kernel_rfl) (by kernel_rfl) (by kernel_rfl)) ?_
  intro W base args ds gs before hval0 hW hcnd hsz0 _
  have hsz : (DataW.weightsEach Try.prog (Try.f6.params.toList ++ Rows.confAllSpec.plain.varTypes Try.prog) (ds ++ gs)).all (· ≤ reachBytes) = true := hsz0
  clear hsz0
  have hval : ∀ (j : Nat) t v, Try.f6.params[j]? = some t → args[j]? = some v → Value.okWide Try.prog W .any base t v := hval0
  have hW' := hW
  obtain ⟨p, q, hA0, hV, rfl, hfz, hnd⟩ := hW
  have hA : DataW.TrodAll enc Try.prog W 0 (fun _ => true) true Try.f6.params.toList args.toList ds p := hA0
  rw [Try.params6] at hA hval hsz
  obtain ⟨v0, vs0, d0, ds0, p0, q0, hargs, rfl, rfl, h0, r0⟩ := trodAll_cons hA
  obtain ⟨v1, vs1, d1, ds1, p1, q1, rfl, rfl, rfl, h1, r1⟩ := trodAll_cons r0
  obtain ⟨v2, vs2, d2, ds2, p2, q2, rfl, rfl, rfl, h2, r2⟩ := trodAll_cons r1
  obtain ⟨rfl, rfl, rfl⟩ := trodAll_nil r2
  obtain rfl : args = #[v0, v1, v2] := by cases args; simp_all
  obtain ⟨rfl, rfl⟩ := trodVars_none hV
  have k0 := h0
  have lt0 : ∀ x ∈ p0, x.block < W.heap.size := by obtain ⟨m, hm⟩ := k0; exact DataW.trod_lt m _ _ _ hm
  obtain ⟨s0, n0, c0, z0, t0, m0, e0, y0, g0, f0, rfl, rfl, w0, x0, j0, l0⟩ := open_conf (hval 0 24 v0 rfl rfl) h0
  have b0 : n0 ≤ 17592186044416 ∧ m0 ≤ 17592186044416 := by
    have := conf_le hsz j0 l0
    have := w0.len
    have := x0.len
    omega
  clear j0 l0 hsz
  obtain ⟨s1, n1, c1, rfl⟩ := okWide_slice Try.underlying22 (hval 1 22 v1 rfl rfl)
  have k1 := h1
  have lt1 : ∀ x ∈ p1, x.block < W.heap.size := by obtain ⟨m, hm⟩ := k1; exact DataW.trod_lt m _ _ _ hm
  obtain ⟨z1, w1⟩ : ∃ zs, IsRow W s1 n1 c1 zs := by
    obtain ⟨fuel, hf⟩ := h1
    rcases open_ints Try.underlying22 Try.underlying3 (by kernel_rfl) hf with ⟨hcs, _⟩ | ⟨x, l, c, zs, hcs, _, hl, hm, hz, _, hcell, hwz⟩
    · simp [Value.cells] at hcs
      obtain ⟨rfl, rfl, rfl⟩ := hcs
      exact ⟨[], .inl ⟨rfl, rfl, rfl, rfl⟩⟩
    · simp [Value.cells] at hcs
      obtain ⟨rfl, rfl, rfl⟩ := hcs
      exact ⟨zs, .inr ⟨_, rfl, hl, hm, by simpa using hz, hcell, hwz⟩⟩
  obtain ⟨a2, rfl, rfl, rfl, w2⟩ := open_int Try.underlying3 (hval 2 3 v2 rfl rfl) h2
  clear hA0 hval0
  try simp only [List.append_nil] at hW'
  refine (walk W s0 n0 c0 z0 t0 m0 e0 y0 w0 x0 b0 s1 n1 c1 z1 w1 a2 w2).mono fun e W' ⟨he, hg⟩ => ?_
  subst he
  exact ⟨_, rfl, _, _, _, [], _, [], hW', (trodAll_cons_mk (shut_bool Try.underlying4 _) trodAll_mk0), (trodAll_cons_mk (Below.trod laidOut (by kernel_rfl) (of_decide_eq_true (by kernel_rfl)) k0 hg lt0) (trodAll_cons_mk (Below.trod laidOut (by kernel_rfl) (of_decide_eq_true (by kernel_rfl)) k1 hg lt1) (trodAll_cons_mk (shut_int Try.underlying3 w2) trodAll_mk0))), rfl, hg.frame _, fun h => by cases h⟩

theorem over : Rows.confAllRow.holds Try.pinned (OpenSpec.ofChange Rows.confAllSpec) :=
  OpenClaim.holds_of_wide 6 Try.f6 rfl rfl rfl rfl rfl rfl rfl ⟨rfl, rfl, rfl, rfl, rfl⟩ rfl rfl rfl rfl rfl (by kernel_rfl) Try.func6 (by kernel_rfl)
    (of_decide_eq_true (by kernel_rfl)) (by unfold Func.isWrapper; first | (rw [if_pos (by decide +kernel)]; kernel_rfl) | (rw [if_neg (by decide +kernel)]; exact ⟨rfl, rfl⟩))
    (fun os started H enc _ => lifted os started H enc)

/-- ████ THE STATEMENT ████ -/
theorem proved : Rows.ConfAllSaid :=
  over
#print axioms proved
end Go.Proofs.Ytedifbdjcebefaa.confAll
