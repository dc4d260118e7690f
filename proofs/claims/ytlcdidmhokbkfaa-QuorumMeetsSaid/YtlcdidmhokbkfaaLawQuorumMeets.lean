/- The law 'QuorumMeets' answers true at every input, and leaves its arguments as they were. (The frame was written by a program, after the kit's own frames; no condition beside the statement's own.) -/
import Derived.Test.YtlcdidmhokbkfaaRows
import Derived.WalkKit
import Derived.ProofKit
import Derived.OpenShut
import Derived.Deep.RegionHeld3
import Derived.Deep.DeepCutAuto
import Derived.ShutString
import Derived.ChangeOld
import Derived.Below
import Derived.Test.YtlcdidmhokbkfaaLives
import Derived.Test.YtlcdidmhokbkfaaMeet
namespace Go.Proofs.Ytlcdidmhokbkfaa.quorumMeets
open Go.ChangeShapes Go.WideShapes Go.ChangeAt Go.RowKit Go.Proofs.Ytlcdidmhokbkfaa
open Go.ChangeMaps (open_string shut_string)
set_option linter.unusedVariables false
set_option linter.unusedSimpArgs false
set_option maxRecDepth 100000

theorem own : ownKnob Try.prog.godebug = none := by kernel_rfl
theorem laidOut : laidOutB Try.prog = true := by kernel_rfl

set_option maxHeartbeats 1000000 in
theorem walk (w : World) (s0 : Option Addr) (n0 c0 : Nat) (z0 : List Int) (r0 : IsRow w s0 n0 c0 z0) (s1 : Option Addr) (n1 c1 : Nat) (z1 : List Int) (r1 : IsRow w s1 n1 c1 z1) (s2 : Option Addr) (n2 c2 : Nat) (z2 : List Int) (r2 : IsRow w s2 n2 c2 z2) :
    Calls Try.prog 8 #[.slice s0 n0 c0, .slice s1 n1 c1, .slice s2 n2 c2] w fun e w' => e = .returned (.bool true) ∧ Below w.heap.size w w' := by
  have cap2 : n2 ≤ c2 ∧ c2 ≤ maxLen := by
    rcases r2 with ⟨_, h1, h2, _⟩ | ⟨x, _, h1, h2, _⟩
    · subst h1; subst h2; simp
    · exact ⟨h1, h2⟩
  unfold maxLen at cap2
  have RA := Lib.hid r0.rd
  have RB := Lib.hid r1.rd
  have RO := Lib.hid r2.rd
  clear r0 r1 r2
  generalize z0.take n0 = a at *
  generalize z1.take n1 = b at *
  generalize z2.take n2 = o at *
  by_cases hbig : 100 < n0 ∨ 100 < n1 ∨ 100 < n2
  · by_cases h0 : 100 < n0
    · have d0 : decide ((100 : Int) < (n0 : Int)) = true := decide_eq_true (by omega)
      go_enter Try.func8, Try.ntmps8
      go_wp2_with (go_at_call 13; refine (lives_any _).mono ?_; rintro e w' ⟨rfl, hB⟩)
      go_ret
      exact ⟨rfl, hB⟩
    · have d0 : decide ((100 : Int) < (n0 : Int)) = false := decide_eq_false (by omega)
      by_cases h1 : 100 < n1
      · have d1 : decide ((100 : Int) < (n1 : Int)) = true := decide_eq_true (by omega)
        go_enter Try.func8, Try.ntmps8
        go_wp2_with (go_at_call 13; refine (lives_any _).mono ?_; rintro e w' ⟨rfl, hB⟩)
        go_ret
        exact ⟨rfl, hB⟩
      · have d1 : decide ((100 : Int) < (n1 : Int)) = false := decide_eq_false (by omega)
        have h2 : 100 < n2 := by omega
        have d2 : decide ((100 : Int) < (n2 : Int)) = true := decide_eq_true (by omega)
        go_enter Try.func8, Try.ntmps8
        go_wp2_with (go_at_call 13; refine (lives_any _).mono ?_; rintro e w' ⟨rfl, hB⟩)
        go_ret
        exact ⟨rfl, hB⟩
  · have h0 : ¬ 100 < n0 := by omega
    have h1 : ¬ 100 < n1 := by omega
    have h2 : ¬ 100 < n2 := by omega
    have d0 : decide ((100 : Int) < (n0 : Int)) = false := decide_eq_false (by omega)
    have d1 : decide ((100 : Int) < (n1 : Int)) = false := decide_eq_false (by omega)
    have d2 : decide ((100 : Int) < (n2 : Int)) = false := decide_eq_false (by omega)
    have M1 := Lib.hid (meet_any s0 s1 s2 n0 n1 n2 c0 c1 c2 a b o w RA.out RB.out RO.out (by omega) (by omega) (by omega))
    have M2 := Lib.hid (refmeet_any s0 s1 s2 n0 n1 n2 c0 c1 c2 a b o w RA.out RB.out RO.out (by omega) (by omega) (by omega))
    have M3' := meet_any s1 s0 s2 n1 n0 n2 c1 c0 c2 b a o w RB.out RA.out RO.out (by omega) (by omega) (by omega)
    rw [mt_comm b a o] at M3'
    have M3 := Lib.hid M3'
    have HBO := Lib.hid (both a b o)
    generalize hm : mt a b o = m at *
    have HMT := Lib.hid hm
    clear M3' hm hbig
    go_enter Try.func8, Try.ntmps8
    go_wp2_with fail
    refine M1.out.mono ?_
    rintro e w' ⟨rfl, rfl⟩
    go_wp2_with fail
    refine M2.out.mono ?_
    rintro e w' ⟨rfl, rfl⟩
    have hmm : (m != m) = false := by simp
    cases m
    all_goals
      go_wp2_with fail
      refine M1.out.mono ?_
      rintro e w' ⟨rfl, rfl⟩
      go_wp2_with fail
      refine M3.out.mono ?_
      rintro e w' ⟨rfl, rfl⟩
      go_wp2_with fail
      go_loop [7, 8, 48] (fun pv qv iv => ∃ k : Nat, k ≤ n2 ∧ iv = .int .i64 k ∧ pv = .int .i64 (cB a (o.take k) : Nat) ∧ qv = .int .i64 (cB b (o.take k) : Nat)) (fun _ _ iv => n2 - (intOf iv).toNat)
      case atStart => exact ⟨0, by omega, rfl, rfl, rfl⟩
      case round =>
        obtain ⟨k, hk, rfl, rfl, rfl⟩ := hrel
        have l1 := cB_le a (o.take k)
        have l2 := cB_le b (o.take k)
        have l3 : (o.take k).length ≤ k := List.length_take_le _ _
        by_cases hlt : k < n2
        · obtain ⟨bb, off, rfl, hc⟩ := RO.out.at hlt
          have HS := Lib.hid (take_snoc o k (by have := RO.out.1; omega))
          have S1 := Lib.hid (cB_snoc a (o.take k) (o.getD k 0))
          have S2 := Lib.hid (cB_snoc b (o.take k) (o.getD k 0))
          generalize o.getD k 0 = y at *
          have CO := Lib.hid (has_any (some ⟨bb, off, none⟩) k c2 (o.take k) y w (RO.out.pre hk) (by omega))
          have CA := Lib.hid (has_any s0 n0 c0 a y w RA.out (by omega))
          have CB := Lib.hid (has_any s1 n1 c1 b y w RB.out (by omega))
          have hw1 : IntKind.i64.wrap ((cB a (o.take k) : Int) + 1) = (cB a (o.take k) : Int) + 1 := IntWalk.i64_in _ (by omega)
          have hw2 : IntKind.i64.wrap ((cB b (o.take k) : Int) + 1) = (cB b (o.take k) : Int) + 1 := IntWalk.i64_in _ (by omega)
          clear l1 l2 l3
          go_wp2_with fail
          refine CO.out.mono ?_
          rintro e w' ⟨rfl, rfl⟩
          cases hyo : bI (o.take k) y
          · go_wp2_with fail
            refine CA.out.mono ?_
            rintro e w' ⟨rfl, rfl⟩
            cases hya : bI a y
            all_goals
              go_wp2_with fail
              refine CB.out.mono ?_
              rintro e w' ⟨rfl, rfl⟩
              cases hyb : bI b y
              all_goals
                go_wp2
                go_round
                case rel =>
                  refine ⟨k + 1, by omega, by go_num, ?_, ?_⟩
                  · rw [HS.out, S1.out, hya]; first | go_num | rfl
                  · rw [HS.out, S2.out, hyb]; first | go_num | rfl
                case measure => simp [intOf]; omega
          · go_wp2_with (go_at_call 13; refine (lives_any _).mono ?_; rintro e w' ⟨rfl, hB⟩)
            go_ret
            exact ⟨rfl, hB⟩
        · obtain rfl : k = n2 := by omega
          have ho : o.take k = o := List.take_of_length_le (by have := RO.out.1; omega)
          rw [ho] at l1 l2 ⊢
          clear ho l3
          have hq : maj (k : Int) = if k = 0 then 0 else ((k / 2 + 1 : Nat) : Int) := by unfold maj; (repeat' split) <;> omega
          by_cases hk0 : k = 0
          · have hz : ((k : Int) == 0) = true := by simp [hk0]
            have HQ := Lib.hid hq
            clear hq
            go_wp2_with (first | (go_at_call 9; refine (maj_any _ (by omega) _).mono ?_; rintro e w' ⟨rfl, rfl⟩) | (go_at_call 13; refine (lives_any _).mono ?_; rintro e w' ⟨rfl, hB⟩))
            go_ret
            exact ⟨rfl, hB⟩
          · have hz : ((k : Int) == 0) = false := by simp; omega
            rw [if_neg hk0] at hq
            have HQ := Lib.hid hq
            have hb3 : ¬ (cB a o < k / 2 + 1) → ¬ (cB b o < k / 2 + 1) → o.length < cB a o + cB b o := fun h4 h5 => by have := RO.out.1; omega
            have HB3 := Lib.hid hb3
            clear hq hb3
            generalize k / 2 + 1 = q at *
            by_cases hp1 : cB a o < q
            · have e1 : decide ((cB a o : Int) < (q : Int)) = true := decide_eq_true (by omega)
              go_wp2_with (first | (go_at_call 9; refine (maj_any _ (by omega) _).mono ?_; rintro e w' ⟨rfl, rfl⟩; rw [HQ.out]) | (go_at_call 13; refine (lives_any _).mono ?_; rintro e w' ⟨rfl, hB⟩))
              go_ret
              exact ⟨rfl, hB⟩
            · have e1 : decide ((cB a o : Int) < (q : Int)) = false := decide_eq_false (by omega)
              by_cases hp2 : cB b o < q
              · have e2 : decide ((cB b o : Int) < (q : Int)) = true := decide_eq_true (by omega)
                go_wp2_with (first | (go_at_call 9; refine (maj_any _ (by omega) _).mono ?_; rintro e w' ⟨rfl, rfl⟩; rw [HQ.out]) | (go_at_call 13; refine (lives_any _).mono ?_; rintro e w' ⟨rfl, hB⟩))
                go_ret
                exact ⟨rfl, hB⟩
              · have e2 : decide ((cB b o : Int) < (q : Int)) = false := decide_eq_false (by omega)
                have hT := HBO.out (HB3.out hp1 hp2)
                first
                  | (exact absurd hT (by decide))
                  | (go_wp2_with (first | (go_at_call 9; refine (maj_any _ (by omega) _).mono ?_; rintro e w' ⟨rfl, rfl⟩; rw [HQ.out]) | (go_at_call 16; refine M1.out.mono ?_; rintro e w' ⟨rfl, rfl⟩) | (go_at_call 13; refine (lives_any _).mono ?_; rintro e w' ⟨rfl, hB⟩))
                     go_ret
                     exact ⟨rfl, hB⟩)

theorem lifted (os : Os) (started : os.Started) (H : Type) (enc : TypeId × Value → H) :
    ReturnsInHanded {} Try.checked os 8 .any (Rows.quorumMeetsSpec.pre6 enc Try.prog Try.f8 Rows.quorumMeetsRow.domain false) (Rows.quorumMeetsSpec.post enc Try.prog Try.f8 false true false false) := by
  refine returnsInHanded_of_change (C := Try.checked) own started (by kernel_rfl) Try.func8
    (ChangeSpec.witness6 (enc := enc) (C := Try.checked) false ⟨#[], #[.slice none 0 0, .slice none 0 0, .slice none 0 0], []⟩ 8 (by kernel_rfl) (by kernel_rfl) (by kernel_rfl) (by kernel_rfl)) ?_
  intro W base args ds gs before hval0 hW hcnd _
  have hval : ∀ (j : Nat) t v, Try.f8.params[j]? = some t → args[j]? = some v → Value.okWide Try.prog W .any base t v := hval0
  have hW' := hW
  obtain ⟨p, q, hA0, hV, rfl, hfz, hnd⟩ := hW
  have hA : DataW.TrodAll enc Try.prog W 0 (fun _ => true) true Try.f8.params.toList args.toList ds p := hA0
  rw [Try.params8] at hA hval
  obtain ⟨v0, vs0, d0, ds0, p0, q0, hargs, rfl, rfl, h0, r0⟩ := trodAll_cons hA
  obtain ⟨v1, vs1, d1, ds1, p1, q1, rfl, rfl, rfl, h1, r1⟩ := trodAll_cons r0
  obtain ⟨v2, vs2, d2, ds2, p2, q2, rfl, rfl, rfl, h2, r2⟩ := trodAll_cons r1
  obtain ⟨rfl, rfl, rfl⟩ := trodAll_nil r2
  obtain rfl : args = #[v0, v1, v2] := by cases args; simp_all
  obtain ⟨rfl, rfl⟩ := trodVars_none hV
  obtain ⟨s0, n0, c0, rfl⟩ := okWide_slice Try.underlying26 (hval 0 26 v0 rfl rfl)
  have k0 := h0
  have lt0 : ∀ x ∈ p0, x.block < W.heap.size := by obtain ⟨m, hm⟩ := k0; exact DataW.trod_lt m _ _ _ hm
  obtain ⟨z0, w0⟩ : ∃ zs, IsRow W s0 n0 c0 zs := by
    obtain ⟨fuel, hf⟩ := h0
    rcases open_ints Try.underlying26 Try.underlying3 (by kernel_rfl) hf with ⟨hcs, _⟩ | ⟨x, l, c, zs, hcs, _, hl, hm, hz, _, hcell, hwz⟩
    · simp [Value.cells] at hcs
      obtain ⟨rfl, rfl, rfl⟩ := hcs
      exact ⟨[], .inl ⟨rfl, rfl, rfl, rfl⟩⟩
    · simp [Value.cells] at hcs
      obtain ⟨rfl, rfl, rfl⟩ := hcs
      exact ⟨zs, .inr ⟨_, rfl, hl, hm, by simpa using hz, hcell, hwz⟩⟩
  obtain ⟨s1, n1, c1, rfl⟩ := okWide_slice Try.underlying26 (hval 1 26 v1 rfl rfl)
  have k1 := h1
  have lt1 : ∀ x ∈ p1, x.block < W.heap.size := by obtain ⟨m, hm⟩ := k1; exact DataW.trod_lt m _ _ _ hm
  obtain ⟨z1, w1⟩ : ∃ zs, IsRow W s1 n1 c1 zs := by
    obtain ⟨fuel, hf⟩ := h1
    rcases open_ints Try.underlying26 Try.underlying3 (by kernel_rfl) hf with ⟨hcs, _⟩ | ⟨x, l, c, zs, hcs, _, hl, hm, hz, _, hcell, hwz⟩
    · simp [Value.cells] at hcs
      obtain ⟨rfl, rfl, rfl⟩ := hcs
      exact ⟨[], .inl ⟨rfl, rfl, rfl, rfl⟩⟩
    · simp [Value.cells] at hcs
      obtain ⟨rfl, rfl, rfl⟩ := hcs
      exact ⟨zs, .inr ⟨_, rfl, hl, hm, by simpa using hz, hcell, hwz⟩⟩
  obtain ⟨s2, n2, c2, rfl⟩ := okWide_slice Try.underlying26 (hval 2 26 v2 rfl rfl)
  have k2 := h2
  have lt2 : ∀ x ∈ p2, x.block < W.heap.size := by obtain ⟨m, hm⟩ := k2; exact DataW.trod_lt m _ _ _ hm
  obtain ⟨z2, w2⟩ : ∃ zs, IsRow W s2 n2 c2 zs := by
    obtain ⟨fuel, hf⟩ := h2
    rcases open_ints Try.underlying26 Try.underlying3 (by kernel_rfl) hf with ⟨hcs, _⟩ | ⟨x, l, c, zs, hcs, _, hl, hm, hz, _, hcell, hwz⟩
    · simp [Value.cells] at hcs
      obtain ⟨rfl, rfl, rfl⟩ := hcs
      exact ⟨[], .inl ⟨rfl, rfl, rfl, rfl⟩⟩
    · simp [Value.cells] at hcs
      obtain ⟨rfl, rfl, rfl⟩ := hcs
      exact ⟨zs, .inr ⟨_, rfl, hl, hm, by simpa using hz, hcell, hwz⟩⟩
  clear hA0 hval0
  try simp only [List.append_nil] at hW'
  refine (walk W s0 n0 c0 z0 w0 s1 n1 c1 z1 w1 s2 n2 c2 z2 w2).mono fun e W' ⟨he, hg⟩ => ?_
  subst he
  exact ⟨_, rfl, _, _, _, [], _, [], hW', (trodAll_cons_mk (shut_bool Try.underlying4 _) trodAll_mk0), (trodAll_cons_mk (Below.trod laidOut (by kernel_rfl) (of_decide_eq_true (by kernel_rfl)) k0 hg lt0) (trodAll_cons_mk (Below.trod laidOut (by kernel_rfl) (of_decide_eq_true (by kernel_rfl)) k1 hg lt1) (trodAll_cons_mk (Below.trod laidOut (by kernel_rfl) (of_decide_eq_true (by kernel_rfl)) k2 hg lt2) trodAll_mk0))), rfl, hg.frame _, fun h => by cases h⟩

theorem over : Rows.quorumMeetsRow.holds Try.pinned (OpenSpec.ofChange Rows.quorumMeetsSpec) :=
  OpenClaim.holds_of_wide 8 Try.f8 rfl rfl rfl rfl rfl rfl rfl ⟨rfl, rfl, rfl, rfl, rfl⟩ rfl rfl rfl rfl rfl (by kernel_rfl) Try.func8 (by kernel_rfl)
    (of_decide_eq_true (by kernel_rfl)) (by unfold Func.isWrapper; first | (rw [if_pos (by decide +kernel)]; kernel_rfl) | (rw [if_neg (by decide +kernel)]; exact ⟨rfl, rfl⟩))
    (fun os started H enc _ => lifted os started H enc)

/-- ████ THE STATEMENT ████ -/
theorem proved : Rows.QuorumMeetsSaid :=
  over
#print axioms proved
end Go.Proofs.Ytlcdidmhokbkfaa.quorumMeets
