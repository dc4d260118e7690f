/- The law 'ProgressStreams' answers true at every input, and leaves its arguments as they were. (The frame was written by a program, after the kit's own frames; no condition beside the statement's own.) -/
import Derived.Test.YtjjibjamalieiaaRows
import Derived.WalkKit
import Derived.ProofKit
import Derived.OpenShut
import Derived.Deep.RegionHeld3
import Derived.Deep.DeepCutAuto
import Derived.ShutString
import Derived.ChangeOld
import Derived.Below
import Derived.Test.YtjjibjamalieiaaMemberLives
import Derived.Test.YtjjibjamalieiaaMemberMore
namespace Go.Proofs.Ytjjibjamalieiaa.progressStreams
open Go.ChangeShapes Go.WideShapes Go.ChangeAt Go.RowKit Go.ChangeMaps Go.Proofs.Ytjjibjamalieiaa
set_option linter.unusedVariables false
set_option linter.unusedSimpArgs false
set_option maxRecDepth 100000

theorem own : ownKnob Try.prog.godebug = none := by kernel_rfl
theorem laidOut : laidOutB Try.prog = true := by kernel_rfl

set_option maxHeartbeats 1000000 in
theorem walk (w : World) (a0 : Int) (w0 : (Lit.int .u64 a0).wf = true) (s1 : Option Addr) (n1 c1 : Nat) (z1 : List Int) (r1 : IsRow w s1 n1 c1 z1) :
    Calls Try.prog 9 #[.int .u64 a0, .slice s1 n1 c1] w fun e w' => e = .returned (.bool true) ∧ Below w.heap.size w w' := by
  obtain ⟨x0, x1⟩ := Go.bounds_u64 w0
  obtain ⟨h, hh⟩ : ∃ h : Nat, a0 % 1000 = h := ⟨(a0 % 1000).toNat, by omega⟩
  have hh2 : h < 1000 := by omega
  have hht : a0.tmod 1000 = h := by rw [Int.tmod_eq_emod_of_nonneg x0]; exact hh
  have hw1 : IntKind.i64.wrap ((h : Int) + 1) = (h : Int) + 1 := IntWalk.i64_in _ (by omega)
  clear x0 x1 w0
  obtain ⟨b, hb⟩ : ∃ b, b = w.heap.size := ⟨_, rfl⟩
  have HR := Lib.hid r1
  clear r1
  go_enter Try.func9, Try.ntmps9
  go_wp2_with fail
  refine (new_any _ w).mono ?_
  rintro e wn ⟨rfl, P1, hz1, B1⟩
  have e1 : (⟨max (cutF ((h : Int) + 1)) 1, 0, 1, false, 0⟩ : Pg) = ⟨(h : Int) + 1, 0, 1, false, 0⟩ := by
    have : max (cutF ((h : Int) + 1)) 1 = (h : Int) + 1 := by unfold cutF most; omega
    rw [this]
  rw [e1] at P1
  rw [← hb] at P1 hz1 B1 ⊢
  have HB := Lib.hid hb
  have P1 := Lib.hid P1
  have B1 := Lib.hid B1
  clear hb hz1 e1 hh hht
  by_cases hbig : 100 < n1
  · have hd : decide ((100 : Int) < (n1 : Int)) = true := decide_eq_true (by omega)
    go_wp2_with (go_at_call 24; refine (plives_any _).mono ?_; rintro e w3 ⟨rfl, hB3⟩)
    go_ret
    refine ⟨rfl, ?_⟩
    rw [← HB.out]
    exact B1.out.trans (hB3.mono (by have e1 := B1.out.size; have e2 := HB.out; omega))
  · have hd : decide ((100 : Int) < (n1 : Int)) = false := decide_eq_false (by omega)
    go_wp2_with fail
    refine (said1_any ⟨(h : Int) + 1, 0, 1, false, 0⟩ rfl h (by omega) (by unfold most; omega) (by show (0 : Int) ≤ h; omega) b _ P1.out).mono ?_
    rintro e w2 ⟨rfl, P2, O2⟩
    have P2 := Lib.hid P2
    have B2 := Lib.hid (O2.2 b w (Nat.le_refl _) B1.out)
    clear O2 P1 B1
    go_wp2_with fail
    go_loopw [7, 35] (fun nv iv wx => ∃ k N : Nat, k ≤ n1 ∧ h + 1 ≤ N ∧ N ≤ h + 1 + 99 * k ∧ iv = .int .i64 k ∧ nv = .int .i64 N ∧ PB wx b ⟨N, h, 2, false, 0⟩ ∧ Below b w wx) (fun _ iv _ => n1 - (intOf iv).toNat)
    case atStart => exact ⟨0, h + 1, by omega, by omega, by omega, rfl, rfl, P2.out, B2.out⟩
    case round =>
      clear P2 B2
      obtain ⟨k, N, hk, hN1, hN2, rfl, rfl, hP, hB⟩ := hrel
      have P := Lib.hid hP
      have B := Lib.hid hB
      clear hP hB
      by_cases hlt : k < n1
      · obtain ⟨bs, off, z, rfl, hcz, hbs, hz0, hzm⟩ := HR.out.at hlt
        have hcz := (B.out.cell (p := ⟨bs, off + k, none⟩) (by show bs < b; have := HB.out; omega)).trans hcz
        obtain ⟨q, hq⟩ : ∃ q : Nat, z % 100 = q := ⟨(z % 100).toNat, by omega⟩
        have hq2 : q < 100 := by omega
        have hqt : z.tmod 100 = q := by rw [Int.tmod_eq_emod_of_nonneg hz0]; exact hq
        have hwN : IntKind.i64.wrap ((N : Int) + q) = (N : Int) + q := IntWalk.i64_in _ (by omega)
        have hNN : ((N : Int) != (N : Int)) = false := by simp
        have hhh : ((h : Int) != (h : Int)) = false := by simp
        have HN : Hid (cutF ((N : Int) + cutF (q : Int)) = ((N + q : Nat) : Int)) := by show _ = _; unfold cutF most; omega
        clear hz0 hzm hbs
        go_wp2_with (first | (go_at_call 23; refine (mode_any _ rfl b _ P.out).mono ?_; rintro e w' ⟨rfl, rfl⟩) | (go_at_call 27; refine (may2_any _ rfl b _ P.out).mono ?_; rintro e w' ⟨rfl, rfl⟩) | (go_at_call 20; refine (next_any _ rfl b _ P.out).mono ?_; rintro e w' ⟨rfl, rfl⟩) | (go_at_call 22; refine (match_any _ rfl b _ P.out).mono ?_; rintro e w' ⟨rfl, rfl⟩))
        refine (sent2_any ⟨N, h, 2, false, 0⟩ rfl q b _ P.out (by show (0 : Int) ≤ N; omega) (by show (N : Int) ≤ most; unfold most; omega)).mono ?_
        rintro e w3 ⟨rfl, P3, O3⟩
        have P3 : PB w3 b ⟨((N + q : Nat) : Int), h, 2, false, 0⟩ := by rw [← HN.out]; exact P3
        have P3 := Lib.hid P3
        have B3 := Lib.hid (O3.2 b w (Nat.le_refl _) B.out)
        clear O3
        go_wp2
        go_roundw
        case rel => exact ⟨k + 1, N + q, by omega, by omega, by omega, by go_num, by go_num, P3.out, B3.out⟩
        case measure => simp [intOf]; omega
      · by_cases hN : N = h + 1
        · subst hN
          go_wp2_with (go_at_call 24; refine (plives_any _).mono ?_; rintro e w3 ⟨rfl, hB3⟩)
          go_ret
          refine ⟨rfl, ?_⟩
          rw [← HB.out]
          exact B.out.trans (hB3.mono (by have e1 := B.out.size; have e2 := HB.out; omega))
        · have hE : ((N : Int) == (h : Int) + 1) = false := beq_eq_false_iff_ne.2 (by omega)
          have hw2 : IntKind.i64.wrap ((N : Int) - 1) = (N : Int) - 1 := IntWalk.i64_in _ (by omega)
          have hNN : ((h : Int) + 1 != (h : Int) + 1) = false := by simp
          go_wp2_with fail
          refine (refused_any ⟨N, h, 2, false, 0⟩ (.inr rfl) ((N : Int) - 1) h (by omega) (by unfold most; omega) (by omega) (by unfold most; omega) (by show (h : Int) < (N : Int) - 1; omega) (by show (0 : Int) ≤ h; omega) (fun h2 => by cases h2) b _ P.out).mono ?_
          rintro e w3 ⟨rfl, P3, O3⟩
          have e3 : (⟨max (min ((N : Int) - 1) ((h : Int) + 1)) ((h : Int) + 1), h, 1, false, 0⟩ : Pg) = ⟨(h : Int) + 1, h, 1, false, 0⟩ := by
            have : max (min ((N : Int) - 1) ((h : Int) + 1)) ((h : Int) + 1) = (h : Int) + 1 := by omega
            rw [this]
          have P3 : PB w3 b ⟨(h : Int) + 1, h, 1, false, 0⟩ := by rw [← e3]; exact P3
          have P3 := Lib.hid P3
          have B3 := Lib.hid (O3.2 b w (Nat.le_refl _) B.out)
          clear O3 e3
          go_wp2_with (first | (go_at_call 23; refine (mode_any _ rfl b _ P3.out).mono ?_; rintro e w' ⟨rfl, rfl⟩) | (go_at_call 20; refine (next_any _ rfl b _ P3.out).mono ?_; rintro e w' ⟨rfl, rfl⟩))
          refine (sent1_any _ rfl 1 b _ P3.out).mono ?_
          rintro e w4 ⟨rfl, P4, O4⟩
          have P4 := Lib.hid P4
          have B4 := Lib.hid (O4.2 b w (Nat.le_refl _) B3.out)
          clear O4
          go_wp2_with (first | (go_at_call 27; refine (may1_any _ rfl b _ P4.out).mono ?_; rintro e w' ⟨rfl, rfl⟩) | (go_at_call 24; refine (plives_any _).mono ?_; rintro e w5 ⟨rfl, hB5⟩))
          go_ret
          refine ⟨rfl, ?_⟩
          rw [← HB.out]
          exact B4.out.trans (hB5.mono (by have e1 := B4.out.size; have e2 := HB.out; omega))

theorem lifted (os : Os) (started : os.Started) (H : Type) (enc : TypeId × Value → H) :
    ReturnsInHanded {} Try.checked os 9 .any (Rows.progressStreamsSpec.pre6 enc Try.prog Try.f9 Rows.progressStreamsRow.domain false) (Rows.progressStreamsSpec.post enc Try.prog Try.f9 false true false false) := by
  refine returnsInHanded_of_change (C := Try.checked) own started (by kernel_rfl) Try.func9
    (ChangeSpec.witness6 (enc := enc) (C := Try.checked) false ⟨#[], #[.int .u64 0, .slice none 0 0], []⟩ 8 (by kernel_rfl) (by kernel_rfl) (by kernel_rfl) (by kernel_rfl)) ?_
  intro W base args ds gs before hval0 hW hcnd _
  have hval : ∀ (j : Nat) t v, Try.f9.params[j]? = some t → args[j]? = some v → Value.okWide Try.prog W .any base t v := hval0
  have hW' := hW
  obtain ⟨p, q, hA0, hV, rfl, hfz, hnd⟩ := hW
  have hA : DataW.TrodAll enc Try.prog W 0 (fun _ => true) true Try.f9.params.toList args.toList ds p := hA0
  rw [Try.params9] at hA hval
  obtain ⟨v0, vs0, d0, ds0, p0, q0, hargs, rfl, rfl, h0, r0⟩ := trodAll_cons hA
  obtain ⟨v1, vs1, d1, ds1, p1, q1, rfl, rfl, rfl, h1, r1⟩ := trodAll_cons r0
  obtain ⟨rfl, rfl, rfl⟩ := trodAll_nil r1
  obtain rfl : args = #[v0, v1] := by cases args; simp_all
  obtain ⟨rfl, rfl⟩ := trodVars_none hV
  obtain ⟨a0, rfl, rfl, rfl, w0⟩ := open_int Try.underlying36 (hval 0 36 v0 rfl rfl) h0
  obtain ⟨s1, n1, c1, rfl⟩ := okWide_slice Try.underlying46 (hval 1 46 v1 rfl rfl)
  have k1 := h1
  have lt1 : ∀ x ∈ p1, x.block < W.heap.size := by obtain ⟨m, hm⟩ := k1; exact DataW.trod_lt m _ _ _ hm
  obtain ⟨z1, w1⟩ : ∃ zs, IsRow W s1 n1 c1 zs := by
    obtain ⟨fuel, hf⟩ := h1
    rcases open_ints Try.underlying46 Try.underlying36 (by kernel_rfl) hf with ⟨hcs, _⟩ | ⟨x, l, c, zs, hcs, _, hl, hm, hz, _, hcell, hwz⟩
    · simp [Value.cells] at hcs
      obtain ⟨rfl, rfl, rfl⟩ := hcs
      exact ⟨[], .inl ⟨rfl, rfl, rfl, rfl⟩⟩
    · simp [Value.cells] at hcs
      obtain ⟨rfl, rfl, rfl⟩ := hcs
      exact ⟨zs, .inr ⟨_, rfl, hl, hm, by simpa using hz, hcell, hwz⟩⟩
  clear hA0 hval0
  try simp only [List.append_nil] at hW'
  refine (walk W a0 w0 s1 n1 c1 z1 w1).mono fun e W' ⟨he, hg⟩ => ?_
  subst he
  exact ⟨_, rfl, _, _, _, [], _, [], hW', (trodAll_cons_mk (shut_bool Try.underlying4 _) trodAll_mk0), (trodAll_cons_mk (shut_int Try.underlying36 w0) (trodAll_cons_mk (Below.trod laidOut (by kernel_rfl) (of_decide_eq_true (by kernel_rfl)) k1 hg lt1) trodAll_mk0)), rfl, hg.frame _, fun h => by cases h⟩

theorem over : Rows.progressStreamsRow.holds Try.pinned (OpenSpec.ofChange Rows.progressStreamsSpec) :=
  OpenClaim.holds_of_wide 9 Try.f9 rfl rfl rfl rfl rfl rfl rfl ⟨rfl, rfl, rfl, rfl, rfl⟩ rfl rfl rfl rfl rfl (by kernel_rfl) Try.func9 (by kernel_rfl)
    (of_decide_eq_true (by kernel_rfl)) (by unfold Func.isWrapper; first | (rw [if_pos (by decide +kernel)]; kernel_rfl) | (rw [if_neg (by decide +kernel)]; exact ⟨rfl, rfl⟩))
    (fun os started H enc _ => lifted os started H enc)

/-- ████ THE STATEMENT ████ -/
theorem proved : Rows.ProgressStreamsSaid :=
  over
#print axioms proved
end Go.Proofs.Ytjjibjamalieiaa.progressStreams
