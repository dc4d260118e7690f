/- The law 'QuorumShifts' answers true at every input, and leaves its arguments as they were. (The frame was written by a program, after the kit's own frames; no condition beside the statement's own.) -/
import Derived.Test.YtlcdidmhokbkfaaRows
import Derived.WalkKit
import Derived.ProofKit
import Derived.OpenShut
import Derived.Deep.RegionHeld3
import Derived.Deep.DeepCutAuto
import Derived.ShutString
import Derived.ChangeOld
import Derived.Below
import Derived.Test.YtlcdidmhokbkfaaLives
import Derived.Test.YtlcdidmhokbkfaaShift
namespace Go.Proofs.Ytlcdidmhokbkfaa.quorumShifts
open Go.ChangeShapes Go.WideShapes Go.ChangeAt Go.RowKit Go.Proofs.Ytlcdidmhokbkfaa
open Go.ChangeMaps (open_string shut_string)
set_option linter.unusedVariables false
set_option linter.unusedSimpArgs false
set_option maxRecDepth 100000

theorem own : ownKnob Try.prog.godebug = none := by kernel_rfl
theorem laidOut : laidOutB Try.prog = true := by kernel_rfl

set_option maxHeartbeats 1000000 in
theorem walk (w : World) (s0 : Option Addr) (n0 c0 : Nat) (z0 : List Int) (r0 : IsRow w s0 n0 c0 z0) :
    Calls Try.prog 7 #[.slice s0 n0 c0] w fun e w' => e = .returned (.bool true) ∧ Below w.heap.size w w' := by
  have hlen := r0.len
  have HR := Lib.hid r0
  clear r0
  by_cases hbig : n0 = 0 ∨ 200 < n0
  · by_cases h0 : n0 = 0
    · have hp : ((n0 : Int) == 0) = true := by simp [h0]
      go_enter Try.func7, Try.ntmps7
      go_wp2_with (go_at_call 13; refine (lives_any _).mono ?_; rintro e w' ⟨rfl, hB⟩)
      go_ret
      exact ⟨rfl, hB⟩
    · have hp : ((n0 : Int) == 0) = false := by simp; omega
      have h2 : 200 < n0 := by omega
      have hd : decide ((200 : Int) < (n0 : Int)) = true := decide_eq_true (by omega)
      go_enter Try.func7, Try.ntmps7
      go_wp2_with (go_at_call 13; refine (lives_any _).mono ?_; rintro e w' ⟨rfl, hB⟩)
      go_ret
      exact ⟨rfl, hB⟩
  · have hp : ((n0 : Int) == 0) = false := by simp; omega
    have h2 : ¬ 200 < n0 := by omega
    have h3 : 0 < n0 := by omega
    have hd : decide ((200 : Int) < (n0 : Int)) = false := decide_eq_false (by omega)
    obtain ⟨b, off, rfl, hall, hlt⟩ := HR.out.whole (by omega)
    have hl : (z0.take n0).length = n0 := by simp; omega
    have HALL := Lib.hid hall
    have HL := Lib.hid hl
    obtain ⟨i0, hi, hz0, hz1, hz2⟩ := info_parts info3
    obtain ⟨s, hs⟩ : ∃ s, s = w.heap.size := ⟨_, rfl⟩
    have HS := Lib.hid hs
    clear hall hl hbig hs
    go_enter Try.func7, Try.ntmps7
    go_wp2_with fail
    go_loopw [3, 4, 19] (fun mv bv xv wr => ∃ k : Nat, k ≤ n0 ∧ xv = .int .i64 k ∧ wr.ownsRow s 3 1 mv k (((z0.take k).map (· + 1)).map (Value.int .i64)) ∧ wr.ownsRow s 3 1 bv k (((List.range k).map (fun j => z0.getD (n0 - 1 - j) 0)).map (Value.int .i64)) ∧ Ap mv bv ∧ Below s w wr ∧ ∀ j, j < k → z0.getD j 0 ≤ 1152921504606846976 ∧ -1152921504606846976 ≤ z0.getD j 0) (fun _ _ xv _ => n0 - (intOf xv).toNat)
    case atStart => exact ⟨0, by omega, rfl, World.ownsRow_nil _ _ _ _, World.ownsRow_nil _ _ _ _, (fun g hg => by cases hg), Below.refl _ _, (fun j hj => by omega)⟩
    case round =>
      obtain ⟨k, hk, rfl, hM, hR, hA, hB, hX⟩ := hrel
      have HM := Lib.hid hM
      have HRR := Lib.hid hR
      have HA := Lib.hid hA
      have HB := Lib.hid hB
      have HX := Lib.hid hX
      have hsz : s ≤ wr.heap.size := by have := hB.size; have := HS.out; omega
      clear hM hR hA hB hX
      by_cases hlt2 : k < n0
      · have hc := (HB.out.cell (p := ⟨b, off + k, none⟩) (by show b < s; have := HS.out; omega)).trans (HALL.out k (by omega))
        obtain ⟨x, hx⟩ : ∃ x, x = z0.getD k 0 := ⟨_, rfl⟩
        rw [← hx] at hc
        have HXX := Lib.hid hx
        clear hx
        by_cases hup : 1152921504606846976 < x
        · go_wp2_with (go_at_call 13; refine (lives_any _).mono ?_; rintro e w' ⟨rfl, hB⟩)
          go_ret
          refine ⟨rfl, ?_⟩
          rw [← HS.out]; exact HB.out.trans (hB.mono hsz)
        · by_cases hdn : x < -1152921504606846976
          · go_wp2_with (go_at_call 13; refine (lives_any _).mono ?_; rintro e w' ⟨rfl, hB⟩)
            go_ret
            refine ⟨rfl, ?_⟩
            rw [← HS.out]; exact HB.out.trans (hB.mono hsz)
          · have hw1 : IntKind.i64.wrap (x + 1) = x + 1 := IntWalk.i64_in _ (by omega)
            have hw2 : IntKind.i64.wrap ((n0 : Int) - 1 - (k : Int)) = ((n0 - 1 - k : Nat) : Int) := by rw [show (n0 : Int) - 1 - (k : Int) = ((n0 - 1 - k : Nat) : Int) by omega]; exact IntWalk.i64_in _ (by omega)
            go_upto_region 10 with (at_builtin; refine wpList_append_own_at _ rfl _ _ 26 rfl s 3 i0 (.int .i64 0) 1 8 Try.underlying26 hi hz0 hz1 hz2 rfl (by decide) _ _ _ rfl (HM.out.alloc _) ⟨wr.heap.size, 0, none⟩ 1 1 [.int .i64 (x + 1)] rfl rfl (cell_one_new _ _ _) (by simp [Value.oneCell']) (by simp only [maxLen]; omega) (by omega) (by simp; omega) ?_; intro v1 w1 hown1 hgr1 _ hat1)
            obtain ⟨hR1, hA1, hB1⟩ := apart_step HM.out HRR.out HA.out hown1 hgr1 hat1 hsz
            have HO1 := Lib.hid hown1
            have HR1 := Lib.hid hR1
            have HA1 := Lib.hid hA1
            have HB1 : Hid (Below s w w1) := HB.out.trans hB1
            have hsz1 : s ≤ w1.heap.size := by have := hB1.size; omega
            clear hown1 hgr1 hat1 hR1 hA1 hB1
            have hc2 := (HB1.out.cell (p := ⟨b, off + (n0 - 1 - k), none⟩) (by show b < s; have := HS.out; omega)).trans (HALL.out (n0 - 1 - k) (by omega))
            obtain ⟨y, hy⟩ : ∃ y, y = z0.getD (n0 - 1 - k) 0 := ⟨_, rfl⟩
            rw [← hy] at hc2
            have HY := Lib.hid hy
            clear hy
            go_upto_region 11 with (at_builtin; refine wpList_append_own_at _ rfl _ _ 26 rfl s 3 i0 (.int .i64 0) 1 8 Try.underlying26 hi hz0 hz1 hz2 rfl (by decide) _ _ _ rfl (HR1.out.alloc _) ⟨w1.heap.size, 0, none⟩ 1 1 [.int .i64 y] rfl rfl (cell_one_new _ _ _) (by simp [Value.oneCell']) (by simp only [maxLen]; omega) (by omega) (by simp; omega) ?_; intro v2 w2 hown2 hgr2 _ hat2)
            obtain ⟨hM2, hA2, hB2⟩ := apart_step HR1.out HO1.out HA1.out.symm hown2 hgr2 hat2 hsz1
            have HO2 := Lib.hid hown2
            have HM2 := Lib.hid hM2
            have HA2 := Lib.hid hA2.symm
            have HB2 : Hid (Below s w w2) := HB1.out.trans hB2
            clear hown2 hgr2 hat2 hM2 hA2 hB2
            go_wp2
            go_roundw
            case rel =>
              refine ⟨k + 1, by omega, by go_num, ?_, ?_, HA2.out, HB2.out, ?_⟩
              · rw [take_snoc z0 k (by omega), ← HXX.out]; simpa using HM2.out
              · rw [List.range_succ, List.map_append, List.map_append]; simp only [List.map_cons, List.map_nil]; rw [← HY.out]; exact HO2.out
              · intro j hj
                rcases Nat.lt_or_eq_of_le (Nat.lt_succ_iff.1 hj) with h4 | rfl
                · exact HX.out j h4
                · rw [← HXX.out]; exact ⟨by omega, by omega⟩
            case measure => simp [intOf]; omega
      · obtain rfl : k = n0 := by omega
        clear hlt2
        have eM := own_ints HM.out h3
        have eR := own_ints HRR.out h3
        obtain ⟨gm, cm, rfl, lm, _, gml, cmc⟩ := eM
        obtain ⟨gr, cr, rfl, lr, _, grl, crc⟩ := eR
        have hlpos : 0 < (z0.take k).length := by have := HL.out; omega
        have eUp := cmt_up (z0.take k) hlpos
        have eRev : (List.range k).map (fun j => z0.getD (k - 1 - j) 0) = (z0.take k).reverse := by
          apply List.ext_getElem
          · simp; omega
          · intro i h1 h2
            simp at h1
            simp [List.getElem_reverse, List.getD_eq_getElem?_getD, List.getElem?_eq_getElem (show k - 1 - i < z0.length by omega)]
            congr 1
            omega
        have eBack := cmt_reverse (z0.take k) hlpos
        rw [← eRev] at eBack
        have hbound : cmt (z0.take k) ≤ 1152921504606846976 ∧ -1152921504606846976 ≤ cmt (z0.take k) := by
          have hm := cmt_mem (z0.take k) hlpos
          obtain ⟨j, hj, e⟩ := List.getElem_of_mem hm
          have hj' : j < k := by have := HL.out; omega
          have := HX.out j hj'
          rw [← e, List.getElem_take]
          rw [List.getD_eq_getElem?_getD, List.getElem?_eq_getElem (by omega)] at this
          exact this
        have HC := Lib.hid (commit_any b off k c0 z0 wr h3 hlen (by omega) (fun j hj => (HB.out.cell (p := ⟨b, off + j, none⟩) (by show b < s; have := HS.out; omega)).trans (HALL.out j hj)) (by have := HS.out; omega))
        have C1 := Lib.hid cmc
        have C2 := Lib.hid crc
        have L1 := Lib.hid lm
        have L2 := Lib.hid lr
        have G1 := Lib.hid gml
        have G2 := Lib.hid grl
        have EU := Lib.hid eUp
        have EB := Lib.hid eBack
        generalize hn : cmt (z0.take k) = n at *
        have hwn : IntKind.i64.wrap (n + 1) = n + 1 := IntWalk.i64_in _ (by omega)
        clear cmc crc lm lr gml grl eUp eBack eRev
        go_wp2_with fail
        refine HC.out.mono ?_
        rintro e w3 ⟨rfl, hB3⟩
        have B3 : Hid (Below s w w3) := HB.out.trans (hB3.mono hsz)
        have z3 := hB3.size
        have hsz3 : s ≤ w3.heap.size := by omega
        have D1 : Hid (∀ j, j < ((z0.take k).map (· + 1)).length → w3.cell? ⟨gm, 0 + j, none⟩ = some (.int .i64 (((z0.take k).map (· + 1)).getD j 0))) := fun j hj => (hB3.cell (p := ⟨gm, 0 + j, none⟩) G1.out).trans (C1.out j hj)
        have D2 : Hid (∀ j, j < ((List.range k).map (fun j => z0.getD (k - 1 - j) 0)).length → w3.cell? ⟨gr, 0 + j, none⟩ = some (.int .i64 (((List.range k).map (fun j => z0.getD (k - 1 - j) 0)).getD j 0))) := fun j hj => (hB3.cell (p := ⟨gr, 0 + j, none⟩) G2.out).trans (C2.out j hj)
        have T1 : Hid (cmt (((z0.take k).map (· + 1)).take k) = n + 1) := by
          show _ = _
          rw [List.take_of_length_le (by have := L1.out; omega)]; exact EU.out
        have T2 : Hid (cmt (((List.range k).map (fun j => z0.getD (k - 1 - j) 0)).take k) = n) := by
          show _ = _
          rw [List.take_of_length_le (by have := L2.out; omega)]; exact EB.out
        have K1 := Lib.hid (commit_any gm 0 k cm ((z0.take k).map (· + 1)) w3 h3 (by have := L1.out; omega) (by omega) D1.out (by have := G1.out; omega))
        have g2 : gr < w3.heap.size := by have := G2.out; omega
        clear hB3 C1 C2
        go_wp2_with fail
        refine K1.out.mono ?_
        rintro e w4 ⟨rfl, hB4⟩
        rw [T1.out]
        have B4 : Hid (Below s w w4) := B3.out.trans (hB4.mono hsz3)
        have z4 := hB4.size
        have E2 : Hid (∀ j, j < ((List.range k).map (fun j => z0.getD (k - 1 - j) 0)).length → w4.cell? ⟨gr, 0 + j, none⟩ = some (.int .i64 (((List.range k).map (fun j => z0.getD (k - 1 - j) 0)).getD j 0))) := fun j hj => (hB4.cell (p := ⟨gr, 0 + j, none⟩) g2).trans (D2.out j hj)
        have K2 := Lib.hid (commit_any gr 0 k cr ((List.range k).map (fun j => z0.getD (k - 1 - j) 0)) w4 h3 (by have := L2.out; omega) (by omega) E2.out (by omega))
        clear hB4 D1 D2
        go_wp2_with fail
        refine K2.out.mono ?_
        rintro e w5 ⟨rfl, hB5⟩
        rw [T2.out]
        have B5 : Hid (Below s w w5) := B4.out.trans (hB5.mono (by omega))
        have z5 := hB5.size
        clear hB5 E2
        have K3 := Lib.hid (commit_any w5.heap.size 0 1 1 [n] (w5.alloc (.cells #[.int .i64 n] 3)) (by decide) (by simp) (by decide) (fun j hj => by
          have : j = 0 := by simp at hj; omega
          subst this; simp [World.cell?_alloc_new]) (by simp))
        have T3 : Hid (cmt ([n].take 1) = n) := cmt_one n
        go_wp2_with fail
        refine K3.out.mono ?_
        rintro e w6 ⟨rfl, hB6⟩
        rw [T3.out]
        have B6 : Hid (Below s w w6) := (B5.out.alloc (by omega) _).trans (hB6.mono (by simp; omega))
        have z6 : w5.heap.size + 1 ≤ w6.heap.size := by have := hB6.size; simpa using this
        clear hB6
        go_wp2_with (go_at_call 13; refine (lives_any _).mono ?_; rintro e w' ⟨rfl, hB⟩)
        go_ret
        refine ⟨rfl, ?_⟩
        rw [← HS.out]; exact B6.out.trans (hB.mono (by omega))

theorem lifted (os : Os) (started : os.Started) (H : Type) (enc : TypeId × Value → H) :
    ReturnsInHanded {} Try.checked os 7 .any (Rows.quorumShiftsSpec.pre6 enc Try.prog Try.f7 Rows.quorumShiftsRow.domain false) (Rows.quorumShiftsSpec.post enc Try.prog Try.f7 false true false false) := by
  refine returnsInHanded_of_change (C := Try.checked) own started (by kernel_rfl) Try.func7
    (ChangeSpec.witness6 (enc := enc) (C := Try.checked) false ⟨#[], #[.slice none 0 0], []⟩ 8 (by kernel_rfl) (by kernel_rfl) (by kernel_rfl) (by kernel_rfl)) ?_
  intro W base args ds gs before hval0 hW hcnd _
  have hval : ∀ (j : Nat) t v, Try.f7.params[j]? = some t → args[j]? = some v → Value.okWide Try.prog W .any base t v := hval0
  have hW' := hW
  obtain ⟨p, q, hA0, hV, rfl, hfz, hnd⟩ := hW
  have hA : DataW.TrodAll enc Try.prog W 0 (fun _ => true) true Try.f7.params.toList args.toList ds p := hA0
  rw [Try.params7] at hA hval
  obtain ⟨v0, vs0, d0, ds0, p0, q0, hargs, rfl, rfl, h0, r0⟩ := trodAll_cons hA
  obtain ⟨rfl, rfl, rfl⟩ := trodAll_nil r0
  obtain rfl : args = #[v0] := by cases args; simp_all
  obtain ⟨rfl, rfl⟩ := trodVars_none hV
  obtain ⟨s0, n0, c0, rfl⟩ := okWide_slice Try.underlying26 (hval 0 26 v0 rfl rfl)
  have k0 := h0
  have lt0 : ∀ x ∈ p0, x.block < W.heap.size := by obtain ⟨m, hm⟩ := k0; exact DataW.trod_lt m _ _ _ hm
  obtain ⟨z0, w0⟩ : ∃ zs, IsRow W s0 n0 c0 zs := by
    obtain ⟨fuel, hf⟩ := h0
    rcases open_ints Try.underlying26 Try.underlying3 (by kernel_rfl) hf with ⟨hcs, _⟩ | ⟨x, l, c, zs, hcs, _, hl, hm, hz, _, hcell, hwz⟩
    · simp [Value.cells] at hcs
      obtain ⟨rfl, rfl, rfl⟩ := hcs
      exact ⟨[], .inl ⟨rfl, rfl, rfl, rfl⟩⟩
    · simp [Value.cells] at hcs
      obtain ⟨rfl, rfl, rfl⟩ := hcs
      exact ⟨zs, .inr ⟨_, rfl, hl, hm, by simpa using hz, hcell, hwz⟩⟩
  clear hA0 hval0
  try simp only [List.append_nil] at hW'
  refine (walk W s0 n0 c0 z0 w0).mono fun e W' ⟨he, hg⟩ => ?_
  subst he
  exact ⟨_, rfl, _, _, _, [], _, [], hW', (trodAll_cons_mk (shut_bool Try.underlying4 _) trodAll_mk0), (trodAll_cons_mk (Below.trod laidOut (by kernel_rfl) (of_decide_eq_true (by kernel_rfl)) k0 hg lt0) trodAll_mk0), rfl, hg.frame _, fun h => by cases h⟩

theorem over : Rows.quorumShiftsRow.holds Try.pinned (OpenSpec.ofChange Rows.quorumShiftsSpec) :=
  OpenClaim.holds_of_wide 7 Try.f7 rfl rfl rfl rfl rfl rfl rfl ⟨rfl, rfl, rfl, rfl, rfl⟩ rfl rfl rfl rfl rfl (by kernel_rfl) Try.func7 (by kernel_rfl)
    (of_decide_eq_true (by kernel_rfl)) (by unfold Func.isWrapper; first | (rw [if_pos (by decide +kernel)]; kernel_rfl) | (rw [if_neg (by decide +kernel)]; exact ⟨rfl, rfl⟩))
    (fun os started H enc _ => lifted os started H enc)

/-- ████ THE STATEMENT ████ -/
theorem proved : Rows.QuorumShiftsSaid :=
  over
#print axioms proved
end Go.Proofs.Ytlcdidmhokbkfaa.quorumShifts
