/- Texts of this seat, set one behind the other. -/
import Derived.Test.YtcooapflofiolaaDoorRows
import Derived.WalkKit
import Derived.ProofKit
import Derived.OpenShut
import Derived.Deep.RegionHeld3
import Derived.Deep.DeepCutAuto
import Derived.ShutString
import Derived.ChangeOld
import Derived.Below
import Derived.SizedLaws
import Derived.Test.YtcooapflofiolaaDoorTie
import Derived.Test.YtcooapflofiolaaDoorCards
import Derived.SevenTiedAt
import Derived.Test.YtcooapflofiolaaDoorZ4
/- The law 'SwissGrows' answers true at every input, and leaves its arguments as they were; the listed table starts as the program's text lays it (the given tie). (The frame was written by a program, after the kit's own frames.) -/
namespace Go.Proofs.YtcooapflofiolaaDoor.swissGrows
open Go.ChangeShapes Go.WideShapes Go.ChangeAt Go.RowKit Go.Shelf Go.Proofs.YtcooapflofiolaaDoor
open Go.ChangeMaps (open_string shut_string)
set_option linter.unusedVariables false
set_option linter.unusedSimpArgs false
set_option maxRecDepth 100000

theorem laidOut : laidOutB Tryd.prog = true := by kernel_rfl

set_option maxHeartbeats 8000000 in
theorem walk (w : World) (hS : Sh w) (a0 b0 : BitVec 64) (s1 : Option Addr) (n1 c1 : Nat) (xs1 : List ByteArray) (ar1 : TR w s1 n1 xs1) :
    Calls Tryd.prog 7 #[.agg #[.int .u64 (Sip.U a0), .int .u64 (Sip.U b0)], .slice s1 n1 c1] w fun e w' => e = .returned (.bool true) ∧ Below w.heap.size w w' := by
  have HTR := Lib.hid ar1
  have HSh := Lib.hid hS
  obtain ⟨w1, hw1⟩ : ∃ w1, w1 = w.alloc (.cells #[.int .u64 (Sip.U a0), .int .u64 (Sip.U b0)] 24) := ⟨_, rfl⟩
  have B1 : Hid (Below w.heap.size w w1) := by rw [hw1]; exact (Below.refl _ w).alloc (Nat.le_refl _) _
  have c0 : w1.cell? ⟨w.heap.size, 0, none⟩ = some (.int .u64 (Sip.U a0)) := by rw [hw1]; simp
  have c1 : w1.cell? ⟨w.heap.size, 1, none⟩ = some (.int .u64 (Sip.U b0)) := by rw [hw1]; simp
  have S1 : Hid (Sh w1) := HSh.out.below B1.out
  have HN := Lib.hid (MB.new_live a0 b0 0 w1 S1.out)
  have HLV : Hid (∀ W, Below w.heap.size w W → Calls Tryd.prog 15 #[] W fun e w' => e = .returned (.bool true) ∧ Below w.heap.size w w') := by
    show ∀ W, _
    intro W hW
    exact (MI.lives_any W (HSh.out.below hW)).mono fun e w' ⟨h1, h2⟩ => ⟨h1, hW.trans (h2.mono hW.size)⟩
  have hneed : needF 0 = 1 := by rfl
  have HW1 := Lib.hid hw1
  clear hw1 hS ar1
  go_enter Tryd.func7, Tryd.ntmps7
  go_upto_region 1 with fail
  rw [← HW1.out]
  go_wp2_with fail
  refine HN.out.mono ?_
  rintro e w2 ⟨hb, ⟨h0, _⟩ | ⟨p, g, hg, rfl, hL⟩⟩
  · rw [hneed] at h0; cases h0
  rw [hneed] at hg
  obtain rfl : g = 1 := by omega
  have HL := Lib.hid hL
  have B2 : Hid (Below w.heap.size w w2) := B1.out.trans (hb.mono B1.out.size)
  have HLO : Hid (w.heap.size ≤ w1.heap.size) := B1.out.size
  clear hb hL hg hneed c0 c1
  by_cases hbig : 300 < n1
  · have hd : decide ((300 : Int) < (n1 : Int)) = true := decide_eq_true (by omega)
    clear hbig
    go_wp2_with fail
    refine (HLV.out _ B2.out).mono ?_
    rintro e w3 ⟨rfl, hb⟩
    go_wp2
    go_ret
    exact ⟨rfl, hb⟩
  · have hd : decide ((300 : Int) < (n1 : Int)) = false := decide_eq_false (by omega)
    go_wp2
    go_loopw [29] (fun i wr => ∃ (k : Nat) (q : Pl) (m : Mp Bool), k ≤ n1 ∧ i = .int .i64 k ∧ q.b = p.b ∧ MB.Live wr w1.heap.size q a0 b0 m ∧ Gr m xs1 k ∧ Below w.heap.size w wr) (fun i _ => n1 - (intOf i).toNat)
    case atStart => exact ⟨0, p, _, by omega, rfl, rfl, HL.out, Gr.zero _, B2.out⟩
    case round =>
      obtain ⟨k, q, m, hk, rfl, hq, hLq, hG, hB⟩ := hrel
      have HLq := Lib.hid hLq
      have HG := Lib.hid hG
      have HBr := Lib.hid hB
      have HQ := Lib.hid hq
      clear hLq hG hB hq
      by_cases hlt : k < n1
      · have hd2 : decide ((k : Int) < (n1 : Int)) = true := decide_eq_true (by omega)
        obtain ⟨b, off, rfl, hcell⟩ := HTR.out.2.resolve_left (by omega)
        have s0 := HBr.out.cell (cell_lt (hcell k hlt)) |>.trans (hcell k hlt)
        have hkn : (k : Int) < (n1 : Int) := by omega
        obtain ⟨key, hkey⟩ : ∃ key, key = xs1.getD k default := ⟨_, rfl⟩
        rw [← hkey] at s0
        by_cases hlong : 200 < key.size
        · have hd3 : decide ((200 : Int) < (key.size : Int)) = true := decide_eq_true (by omega)
          clear hcell hlong hkey
          go_wp2_with fail
          refine (HLV.out _ HBr.out).mono ?_
          rintro e w3 ⟨rfl, hb⟩
          go_wp2
          go_ret
          exact ⟨rfl, hb⟩
        · have hd3 : decide ((200 : Int) < (key.size : Int)) = false := decide_eq_false (by omega)
          have HPU := Lib.hid (MB.put_live HLq.out key true (Nat.le_trans (Nat.le_of_not_lt hlong) (by decide : 200 ≤ maxLen)))
          have HG1 := Lib.hid (gr_put HG.out HLq.out.inv (by omega) (by rw [← hkey]; omega))
          rw [← hkey] at HG1
          obtain ⟨m2, hm2⟩ : ∃ m2, m2 = put (hashN a0 b0) m key true := ⟨_, rfl⟩
          rw [← hm2, HQ.out] at HPU
          rw [← hm2] at HG1
          clear hcell hlong hkey hm2
          go_wp2_with fail
          refine HPU.out.mono ?_
          rintro e w3 ⟨rfl, q2, hq2, hL2, _, hK2⟩
          have L2 := Lib.hid hL2
          have B3 : Hid (Below w.heap.size w w3) := HBr.out.trans ((HLq.out.low hK2).mono HLO.out)
          have HQ2 := Lib.hid (hq2.trans HQ.out)
          have HLE := Lib.hid (MB.len_any q2 a0 b0 m2 w3 L2.out.at_ L2.out.len)
          have HCT := Lib.hid (MB.controls_any q2 a0 b0 m2 w3 L2.out.at_ L2.out.inv)
          rw [HQ2.out] at HLE HCT
          clear hL2 hK2 hq2
          go_wp2_with fail
          refine HLE.out.mono ?_
          rintro e w4 ⟨rfl, rfl⟩
          go_wp2_with fail
          refine HCT.out.mono ?_
          rintro e w4 ⟨v, rfl, hv, hb4⟩
          obtain ⟨va, vc, rfl, hvc⟩ := own_val hv
          have L4 := Lib.hid (L2.out.below (Nat.le_refl _) hb4)
          have B4 : Hid (Below w.heap.size w w4) := B3.out.trans (hb4.mono B3.out.size)
          have HTO := Lib.hid (MB.tombs_any q2 a0 b0 m2 w4 L4.out.at_ L4.out.len)
          rw [HQ2.out, HG1.out.tb] at HTO
          have hld := L4.out.inv.ld
          have hln := L4.out.inv.len
          have hgg := HG1.out.g
          obtain ⟨g, hg⟩ : ∃ g, g = m2.ws.length := ⟨_, rfl⟩
          obtain ⟨n, hn⟩ : ∃ n, n = m2.n := ⟨_, rfl⟩
          rw [← hg] at hld hln hgg
          rw [← hn] at hld hgg
          rw [← hg, ← hn]
          have hw7 : IntKind.i64.wrap (7 * (g : Int)) = 7 * (g : Int) := IntWalk.i64_in _ (by omega)
          have hd4 : decide (7 * (g : Int) < (n : Int)) = false := decide_eq_false (by omega)
          clear hv hb4 hvc
          by_cases hg1 : 1 < g
          · have hd5 : decide ((1 : Int) < (g : Int)) = true := decide_eq_true (by omega)
            have hw8 : IntKind.i64.wrap (7 * ((g : Int) / 2)) = 7 * ((g : Int) / 2) := IntWalk.i64_in _ (by omega)
            have hd6 : decide ((n : Int) ≤ 7 * ((g : Int) / 2)) = false := decide_eq_false (by omega)
            go_wp2_with fail
            refine HTO.out.mono ?_
            rintro e w5 ⟨rfl, rfl⟩
            go_wp2_with fail
            go_roundw
            case rel => exact ⟨k + 1, q2, _, by omega, by go_num, HQ2.out, L4.out, HG1.out, B4.out⟩
            case measure => simp [intOf]; omega
          · have hd5 : decide ((1 : Int) < (g : Int)) = false := decide_eq_false (by omega)
            go_wp2_with fail
            refine HTO.out.mono ?_
            rintro e w5 ⟨rfl, rfl⟩
            go_wp2_with fail
            go_roundw
            case rel => exact ⟨k + 1, q2, _, by omega, by go_num, HQ2.out, L4.out, HG1.out, B4.out⟩
            case measure => simp [intOf]; omega
      · obtain rfl : k = n1 := by omega
        have hd2 : decide ((k : Int) < (k : Int)) = false := decide_eq_false (by omega)
        have HCT := Lib.hid (MB.controls_any q a0 b0 m wr HLq.out.at_ HLq.out.inv)
        rw [HQ.out] at HCT
        go_wp2_with fail
        refine HCT.out.mono ?_
        rintro e w4 ⟨v, rfl, hv, hb4⟩
        obtain ⟨va, vc, rfl, hvc⟩ := own_val hv
        have L4 := Lib.hid (HLq.out.below (Nat.le_refl _) hb4)
        have B4 : Hid (Below w.heap.size w w4) := HBr.out.trans (hb4.mono HBr.out.size)
        obtain ⟨g, hg⟩ : ∃ g, g = m.ws.length := ⟨_, rfl⟩
        rw [← hg]
        have HS0 : Hid (Sh' m xs1 0 k g) := ⟨hg.symm, fun u v hu => by obtain ⟨i, hi, e⟩ := HG.out.h u v hu; exact ⟨i, by omega, hi, e⟩⟩
        clear hv hb4 hvc hg
        go_wp2
        go_loopw [71] (fun i wr => ∃ (j : Nat) (q : Pl) (m : Mp Bool), j ≤ k ∧ i = .int .i64 j ∧ q.b = p.b ∧ MB.Live wr w1.heap.size q a0 b0 m ∧ Sh' m xs1 j k g ∧ Below w.heap.size w wr) (fun i _ => k - (intOf i).toNat)
        case atStart => exact ⟨0, q, m, by omega, rfl, HQ.out, L4.out, HS0.out, B4.out⟩
        case round =>
          obtain ⟨j, q3, m3, hj, rfl, hq3, hL3, hG3, hB3⟩ := hrel
          have HL3 := Lib.hid hL3
          have HG3 := Lib.hid hG3
          have HB3 := Lib.hid hB3
          have HQ3 := Lib.hid hq3
          clear hL3 hG3 hB3 hq3
          by_cases hlt : j < k
          · have hd2 : decide ((j : Int) < (k : Int)) = true := decide_eq_true (by omega)
            obtain ⟨b, off, rfl, hcell⟩ := HTR.out.2.resolve_left (by omega)
            have s0 := HB3.out.cell (cell_lt (hcell j hlt)) |>.trans (hcell j hlt)
            have hkn : (j : Int) < (k : Int) := by omega
            obtain ⟨key, hkey⟩ : ∃ key, key = xs1.getD j default := ⟨_, rfl⟩
            rw [← hkey] at s0
            have HDE := Lib.hid (MB.delete_live HL3.out key (by rw [hkey]; exact Nat.le_trans (HG.out.sz j hlt) (by decide : 200 ≤ maxLen)))
            have HG4 := Lib.hid (sh_del HG3.out HL3.out.inv)
            rw [← hkey] at HG4
            rw [HQ3.out] at HDE
            clear hcell hkey
            go_wp2_with fail
            refine HDE.out.mono ?_
            rintro e w5 ⟨rfl, q5, hq5, hL5, _, hK5⟩
            have L5 := Lib.hid hL5
            have B5 : Hid (Below w.heap.size w w5) := HB3.out.trans ((HL3.out.low hK5).mono HLO.out)
            have HQ5 := Lib.hid (hq5.trans HQ3.out)
            clear hL5 hK5 hq5
            go_wp2_with fail
            go_roundw
            case rel => exact ⟨j + 1, q5, _, by omega, by go_num, HQ5.out, L5.out, HG4.out, B5.out⟩
            case measure => simp [intOf]; omega
          · obtain rfl : j = k := by omega
            have hd2 : decide ((j : Int) < (j : Int)) = false := decide_eq_false (by omega)
            have hn0 := sh_end HG3.out HL3.out.inv
            have hg3 := HG3.out.g
            have HLE := Lib.hid (MB.len_any q3 a0 b0 m3 wr HL3.out.at_ HL3.out.len)
            have HCT := Lib.hid (MB.controls_any q3 a0 b0 m3 wr HL3.out.at_ HL3.out.inv)
            rw [HQ3.out] at HLE HCT
            rw [hn0] at HLE
            rw [hg3] at HCT
            clear hg3
            go_wp2_with fail
            refine HLE.out.mono ?_
            rintro e w5 ⟨rfl, rfl⟩
            go_wp2_with fail
            refine HCT.out.mono ?_
            rintro e w6 ⟨v, rfl, hv, hb6⟩
            obtain ⟨va, vc, rfl, hvc⟩ := own_val hv
            have L6 := Lib.hid (HL3.out.below (Nat.le_refl _) hb6)
            have B6 : Hid (Below w.heap.size w w6) := HB3.out.trans (hb6.mono HB3.out.size)
            have HKE := Lib.hid (MB.keys_any q3 a0 b0 m3 w6 L6.out.at_ L6.out.inv)
            rw [HQ3.out, hn0] at HKE
            clear hv hb6 hvc
            go_wp2_with fail
            refine HKE.out.mono ?_
            rintro e w7 ⟨v, rfl, hv, hb7⟩
            obtain ⟨va, vc, rfl, hvc⟩ := own_val hv
            have B7 : Hid (Below w.heap.size w w7) := B6.out.trans (hb7.mono B6.out.size)
            clear hv hb7 hvc
            go_wp2_with fail
            refine (HLV.out _ B7.out).mono ?_
            rintro e w8 ⟨rfl, hb⟩
            go_wp2
            go_ret
            exact ⟨rfl, hb⟩

theorem lifted (os : Os) (started : os.Started) (H : Type) (enc : TypeId × Value → H) :
    ReturnsInHanded {} Tryd.checked os 7 .any (fun w args => (Rows.swissGrowsSpec.pre enc Tryd.prog Tryd.f7 [] false w args ∧ laidMetH Tryd.prog [("corbel/group.shifts", Rows.laid_corbel_group_shifts)] w) ∧ sizedMet enc Tryd.prog Tryd.f7 (OpenSpec.ofChange Rows.swissGrowsSpec) false w args)
      (Rows.swissGrowsSpec.post enc Tryd.prog Tryd.f7 false true false false) := by
  refine returnsInHanded_of_change_and (C := Tryd.checked) (X := fun w _ => laidMetH Tryd.prog [("corbel/group.shifts", Rows.laid_corbel_group_shifts)] w) (fun _ _ _ hh h => h.of_heap hh) own started (by kernel_rfl) Tryd.func7
    (ChangeSpec.witness_at (enc := enc) (C := Tryd.checked) (os := os) (X := fun w _ => laidMetH Tryd.prog [("corbel/group.shifts", Rows.laid_corbel_group_shifts)] w) false (laidWorld os) #[.agg #[.int .u64 0, .int .u64 0], .slice none 0 0] 8 rfl (by kernel_rfl) (by kernel_rfl) (by kernel_rfl) (by kernel_rfl) (by kernel_rfl) (laidWorld_met os _)) ?_
  intro W base args ds gs before hval0 hW hcnd hsz0 hL _
  have hsz : (DataW.weightsEach Tryd.prog (Tryd.f7.params.toList ++ Rows.swissGrowsSpec.plain.varTypes Tryd.prog) (ds ++ gs)).all (· ≤ reachBytes) = true := hsz0
  clear hsz0
  have hval : ∀ (j : Nat) t v, Tryd.f7.params[j]? = some t → args[j]? = some v → Value.okWide Tryd.prog W .any base t v := hval0
  have hW' := hW
  obtain ⟨p, q, hA0, hV, rfl, hfz, hnd⟩ := hW
  have hA : DataW.TrodAll enc Tryd.prog W 0 (fun _ => true) true Tryd.f7.params.toList args.toList ds p := hA0
  rw [Tryd.params7] at hA hval hsz
  obtain ⟨v0, vs0, d0, ds0, p0, q0, hargs, rfl, rfl, h0, r0⟩ := trodAll_cons hA
  obtain ⟨v1, vs1, d1, ds1, p1, q1, rfl, rfl, rfl, h1, r1⟩ := trodAll_cons r0
  obtain ⟨rfl, rfl, rfl⟩ := trodAll_nil r1
  obtain rfl : args = #[v0, v1] := by cases args; simp_all
  obtain ⟨rfl, rfl⟩ := trodVars_none hV
  have hfit := fun q hq => of_decide_eq_true (List.all_eq_true.1 hsz q hq)
  clear hsz
  obtain ⟨F0, hfit⟩ := fit_cons hfit
  obtain ⟨a0, b0, rfl, rfl, rfl⟩ := open_key (hval 0 24 v0 rfl rfl) h0
  obtain ⟨F1, hfit⟩ := fit_cons hfit
  have k1 := h1
  have lt1 : ∀ x ∈ p1, x.block < W.heap.size := by obtain ⟨m, hm⟩ := k1; exact DataW.trod_lt m _ _ _ hm
  obtain ⟨s1, n1, c1, xs1, rfl, ar1⟩ := open_strs (hval 1 30 v1 rfl rfl) h1
  clear hA0 hval0
  try simp only [List.append_nil] at hW'
  refine (walk W (sh_of_laid hL) a0 b0 s1 n1 c1 xs1 ar1).mono fun e W' ⟨he, hg⟩ => ?_
  subst he
  exact ⟨_, rfl, _, _, _, [], _, [], hW', (trodAll_cons_mk (shut_bool Tryd.underlying4 _) trodAll_mk0), (trodAll_cons_mk (shut_key a0 b0) (trodAll_cons_mk (Below.trod laidOut (by kernel_rfl) (of_decide_eq_true (by kernel_rfl)) k1 hg lt1) trodAll_mk0)), rfl, hg.frame _, fun h => by cases h⟩

theorem over : Rows.swissGrowsRow.holds Tryd.pinned (OpenSpec.ofChange Rows.swissGrowsSpec) :=
  OpenClaim.holds_of_wide 7 Tryd.f7 rfl rfl rfl rfl rfl rfl rfl ⟨rfl, rfl, rfl, rfl, rfl⟩ rfl rfl rfl rfl rfl (by kernel_rfl) Tryd.func7 (by kernel_rfl)
    (of_decide_eq_true (by kernel_rfl)) (by unfold Func.isWrapper; first | (rw [if_pos (by decide +kernel)]; kernel_rfl) | (rw [if_neg (by decide +kernel)]; exact ⟨rfl, rfl⟩))
    (fun os started H enc _ => lifted os started H enc)

/-- ████ THE STATEMENT ████ -/
theorem proved : Rows.SwissGrowsCardSaid :=
  Claim7.holds_tied_plain_at .later [] [.data] true (true, "7e67664e74d41973af7dd467c0ac8d15e139965457cce989b794987f38f310ec") false
    over (fun _ h => by cases h) (by kernel_rfl) (fun _ h => by cases h) swissGrows_row_tie rfl ⟨rfl, rfl⟩ (by kernel_rfl) rfl
    (fun f fn hf hfn => by
      obtain rfl : f = 7 := Option.some.inj ((show Tryd.prog.funcNamed "corbel/corbellaw05.SwissGrows" = some 7 by kernel_rfl).symm.trans hf) |>.symm
      obtain rfl : fn = Tryd.f7 := (Option.some.inj (Tryd.func7.symm.trans hfn)).symm
      refine ⟨by kernel_rfl, fun j t ht => ?_⟩
      have hm := Array.mem_of_getElem? ht
      rw [Tryd.params7] at hm
      simp only [List.mem_toArray, List.mem_cons, List.not_mem_nil, or_false] at hm
      rcases hm with rfl | rfl
      · exact (show Tryd.prog.wantsStandIn 24 = false by kernel_rfl)
      · exact (show Tryd.prog.wantsStandIn 30 = false by kernel_rfl))
    (by kernel_rfl)
#print axioms proved
end Go.Proofs.YtcooapflofiolaaDoor.swissGrows
