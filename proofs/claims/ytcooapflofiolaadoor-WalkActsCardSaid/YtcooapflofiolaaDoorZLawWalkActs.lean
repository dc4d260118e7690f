/- Texts of this seat, set one behind the other. -/
import Derived.Test.YtcooapflofiolaaDoorZ2
import Derived.Test.YtcooapflofiolaaDoorZ1
import Derived.Deep.DeepCutAuto
import Derived.Deep.CutBlock
import Derived.Test.YtcooapflofiolaaDoorZ3
import Derived.Test.YtcooapflofiolaaDoorRows
import Derived.WalkKit
import Derived.ProofKit
import Derived.OpenShut
import Derived.Deep.RegionHeld3
import Derived.ShutString
import Derived.ChangeOld
import Derived.Below
import Derived.SizedLaws
import Derived.Test.YtcooapflofiolaaDoorTie
import Derived.Test.YtcooapflofiolaaDoorCards
import Derived.SevenTiedAt
/- The document's map: made, New. It lies in memory as the maps of texts do (other types, other capacities). -/
namespace Go.Proofs.YtcooapflofiolaaDoor.RM
open Go Go.RowKit Go.Shelf
set_option linter.unusedVariables false
set_option linter.unusedSimpArgs false
set_option maxRecDepth 100000
set_option maxHeartbeats 4000000
abbrev At (w : World) (p : Pl) (k0 k1 : BitVec 64) (m : Mp ByteArray) : Prop := MA Value.string 116 113 w p k0 k1 m
theorem infoR : (Tryd.prog.info? 113).map (fun i => (i.zero, i.size, i.bytes)) = some (some (.agg #[.string ByteArray.empty, .string ByteArray.empty]), 2, 32) := by kernel_rfl
theorem infoW : (Tryd.prog.info? 22).map (fun i => (i.zero, i.size, i.bytes)) = some (some (.int .u64 0), 1, 8) := by kernel_rfl
def NN (k : Nat) : List Value := List.replicate k (Value.int .u64 9259542123273814144)
theorem at_empty {w : World} {b bw bs cw : Nat} {k0 k1 : BitVec 64} {g : Nat} (hb : w.heap[b]? = some (.cells #[.int .u64 (Sip.U k0), .int .u64 (Sip.U k1), .slice (some ⟨bw, 0, none⟩) g cw, .slice (some ⟨bs, 0, none⟩) (8 * g) (8 * g), .int .i64 0, .int .i64 0] 116 (0, 0)))
    (C : Array Value) (hw : w.heap[bw]? = some (.cells C 22 (0, 0))) (hC : ∀ j, j < g → C[j]? = some (.int .u64 9259542123273814144)) (hcw : g ≤ cw) (hs : w.heap[bs]? = some (.cells (madeCells MS.zeroS (8 * g * 2)) 113 (0, 0))) (n1 : b ≠ bw) (n2 : b ≠ bs) (n3 : bw ≠ bs) :
    At w ⟨b, bw, bs, cw, 8 * g⟩ k0 k1 (empty g) := by
  have hl : (empty g : Mp ByteArray).ws.length = g := List.length_replicate
  refine ⟨by rw [hl]; exact hb, ⟨C, hw, fun j hj => ?_⟩, ⟨_, hs, fun i hi => ?_⟩, by rw [hl]; exact hcw, by rw [hl]; exact Nat.le_refl _, n1, n2, n3⟩
  · rw [hl] at hj
    rw [empty_w]
    exact hC j hj
  · rw [hl] at hi
    have e : (empty g : Mp ByteArray).s i = default := by
      unfold Mp.s empty
      rw [List.getD_eq_getElem?_getD]
      simp only [List.getElem?_replicate]
      split <;> rfl
    rw [e]
    exact MS.made_zero g i hi
theorem made_any (k0 k1 : BitVec 64) (g : Nat) (h1 : 1 ≤ g) (hg : g ≤ 1024) (w : World) :
    Calls Tryd.prog 72 #[.int .u64 (Sip.U k0), .int .u64 (Sip.U k1), .int .i64 (g : Int)] w fun e w' => ∃ p : Pl, e = .returned (.pointer (some ⟨p.b, 0, none⟩)) ∧ At w' p k0 k1 (empty g) ∧ (∀ j, p.own j → w.heap.size ≤ j) ∧ Below w.heap.size w w' := by
  obtain ⟨i0, hi, hz0, hz1, hz2⟩ := info_parts infoR
  have hmk : (Instr.makeSlice 114 (.int .i64 (8 * (g : Int))) (.int .i64 (8 * (g : Int)))).run Tryd.prog w = .ok (.slice (some ⟨w.heap.size, 0, none⟩) (8 * g) (8 * g)) (w.alloc (.cells (madeCells MS.zeroS (8 * g * 2)) 113)) := by
    have := run_make (P := Tryd.prog) w 114 113 i0 _ Tryd.underlying114 hi hz0 .i64 .i64 (8 * g) (8 * g) (by omega) (Int.le_refl _) (by rw [hz2]; omega) (by omega)
    rw [show (8 * (g : Int)).toNat = 8 * g by omega, hz1] at this
    exact this
  have hwr : IntKind.i64.wrap (8 * (g : Int)) = 8 * (g : Int) := IntWalk.i64_in _ (by omega)
  clear hi hz0 hz1 hz2
  obtain ⟨C, hC⟩ : ∃ C, C = madeCells MS.zeroS (8 * g * 2) := ⟨_, rfl⟩
  rw [← hC] at hmk
  have HC := Lib.hid hC
  obtain ⟨i1, hi, hz0, hz1, hz2⟩ := info_parts infoW
  obtain ⟨w2, hw2⟩ : ∃ w2, w2 = (w.alloc (.cells C 113)).alloc (.cells #[.int .u64 (Sip.U k0), .int .u64 (Sip.U k1), .slice none 0 0, .slice (some ⟨w.heap.size, 0, none⟩) (8 * g) (8 * g), .int .i64 0, .int .i64 0] 116) := ⟨_, rfl⟩
  have B2 : Hid (Below w.heap.size w w2) := by rw [hw2]; exact ((Below.refl _ w).alloc (Nat.le_refl _) _).alloc (by simp) _
  have b2 : w2.heap[w.heap.size + 1]? = some (.cells #[.int .u64 (Sip.U k0), .int .u64 (Sip.U k1), .slice none 0 0, .slice (some ⟨w.heap.size, 0, none⟩) (8 * g) (8 * g), .int .i64 0, .int .i64 0] 116 (0, 0)) := by
    rw [hw2]
    have := heap_alloc_new (w.alloc (.cells C 113)) (.cells #[.int .u64 (Sip.U k0), .int .u64 (Sip.U k1), .slice none 0 0, .slice (some ⟨w.heap.size, 0, none⟩) (8 * g) (8 * g), .int .i64 0, .int .i64 0] 116)
    rwa [World.size_alloc] at this
  have s2 : w2.heap[w.heap.size]? = some (.cells C 113 (0, 0)) := by
    rw [hw2, Below.heap_alloc _ _ _ (by simp)]; exact heap_alloc_new w _
  have z2 : Hid (w2.heap.size = w.heap.size + 2) := by show _ = _; rw [hw2]; simp
  obtain ⟨s, hs⟩ : ∃ s, s = w.heap.size := ⟨_, rfl⟩
  have HS := Lib.hid hs
  have H2 := Lib.hid b2
  have HS2 := Lib.hid s2
  have HW2 := Lib.hid hw2
  clear b2 s2 hw2 hC hs
  go_enter Tryd.func72, Tryd.ntmps72
  go_upto_region 2 with fail
  rw [← HW2.out, ← HS.out]
  rw [← HS.out] at H2 HS2 z2 B2
  clear hmk hwr
  go_wp2
  go_loopw [8] (fun i wr => ∃ (k : Nat) (v : Value), k ≤ g ∧ i = .int .i64 k ∧ wr.heap[s + 1]? = some (.cells #[.int .u64 (Sip.U k0), .int .u64 (Sip.U k1), v, .slice (some ⟨s, 0, none⟩) (8 * g) (8 * g), .int .i64 0, .int .i64 0] 116 (0, 0)) ∧ wr.ownsRow (s + 2) 22 1 v k (NN k) ∧ wr.heap[s]? = some (.cells C 113 (0, 0)) ∧ Below s w wr ∧ s + 2 ≤ wr.heap.size) (fun i _ => g - (intOf i).toNat)
  case atStart => exact ⟨0, _, by omega, rfl, H2.out, World.ownsRow_nil _ _ _ _, HS2.out, B2.out, by have := z2.out; omega⟩
  case round =>
    obtain ⟨k, v, hk, rfl, hb, hrow, hsl, hB, hsz⟩ := hrel
    have HB := Lib.hid hb
    have HR := Lib.hid hrow
    have HSL := Lib.hid hsl
    have HBl := Lib.hid hB
    clear hb hrow hsl hB
    by_cases hlt : k < g
    · have hd : decide ((k : Int) < (g : Int)) = true := decide_eq_true (by omega)
      have c2 : wr.cell? ⟨s + 1, 2, none⟩ = some v := by simp [World.cell?, HB.out]
      have LX : Hid (Below wr.heap.size wr (wr.alloc (.cells #[.int .u64 9259542123273814144] 22))) := (Below.refl _ wr).alloc (Nat.le_refl _) _
      have hnew : ∀ j u, [Value.int .u64 9259542123273814144][j]? = some u → (wr.alloc (.cells #[.int .u64 9259542123273814144] 22)).cell? (Addr.add ⟨wr.heap.size, 0, none⟩ j) = some u := fun j u h => by
        match j with
        | 0 => simp at h; subst h; rw [Addr.add_lit]; simp
        | j + 1 => simp at h
      obtain ⟨v', w', hr, h2, h3, _, h5⟩ := run_append_own_at (P := Tryd.prog) (wr.alloc (.cells #[.int .u64 9259542123273814144] 22)) (s + 2) 60 60 22 i1 _ 1 8 Tryd.underlying60 hi hz0 hz1 hz2 rfl (by decide) v k _ (own_below HR.out (Nat.le_refl _) LX.out) ⟨wr.heap.size, 0, none⟩ 1 1 [.int .u64 9259542123273814144] rfl hnew (by simp [Value.oneCell']) (by simp only [maxLen]; omega) (by omega) (by have := LX.out.size; omega)
      obtain ⟨va', vc', hv', _⟩ := own_val h2
      subst hv'
      have HA := Lib.hid hr
      have HO := Lib.hid h2
      have BS : Hid (Below (s + 2) wr w') := (LX.out.mono hsz).grown h3 (by have := LX.out.size; omega) (fun r er => (HR.out.lt r er).1)
      have hb' : w'.heap[s + 1]? = some (.cells #[.int .u64 (Sip.U k0), .int .u64 (Sip.U k1), v, .slice (some ⟨s, 0, none⟩) (8 * g) (8 * g), .int .i64 0, .int .i64 0] 116 (0, 0)) := (BS.out.block _ (by omega)).trans HB.out
      have hs' : w'.heap[s]? = some (.cells C 113 (0, 0)) := (BS.out.block _ (by omega)).trans HSL.out
      have f2 : w'.frozen? ⟨s + 1, 2, none⟩ = false := by simp [World.frozen?, hb']
      have c2' : w'.cell? ⟨s + 1, 2, none⟩ = some v := by simp [World.cell?, hb']
      have HB' := Lib.hid hb'
      have HS' := Lib.hid hs'
      have BW : Hid (Below s w w') := HBl.out.trans (BS.out.mono (by omega))
      clear hr h2 h3 h5 hnew hb' hs'
      go_wp2_with (at_builtin; refine wpList_runT 60 rfl _ _ rfl _ _ rfl rfl _ _ HA.out ?_)
      go_roundw
      case rel =>
        refine ⟨k + 1, _, by omega, by go_num, heap_setCell_same _ _ 2 _ _ _ HB'.out, ?_, ?_, BW.out.setCell (p := ⟨s + 1, 2, none⟩) (by show s ≤ s + 1; omega) _, by have := BS.out.size; simp; omega⟩
        · have := HO.out
          rw [show NN k ++ [Value.int .u64 9259542123273814144] = NN (k + 1) by unfold NN; rw [List.replicate_succ']] at this
          exact own_kept this ((Kept.refl (· = s + 1) w').setCell (p := ⟨s + 1, 2, none⟩) (.inl rfl) _) (fun j hj e => by omega)
        · exact (Below.heap_setCell _ _ _ _ (by show s ≠ s + 1; omega)).trans HS'.out
      case measure => simp [intOf]; omega
    · obtain rfl : k = g := by omega
      have hd : decide ((k : Int) < (k : Int)) = false := decide_eq_false (by omega)
      go_wp2
      go_ret
      rcases HR.out.2 with ⟨_, h0⟩ | ⟨bw, cap, cur, hv, h3, h4, h5, h6, h7, h8⟩
      · omega
      · have h4' := (Array.getElem?_eq_some_iff.1 h4).1
        refine ⟨⟨s + 1, bw, s, cap, 8 * k⟩, rfl, at_empty (by rw [← hv]; exact HB.out) cur h4 (fun j hj => ?_) h5 (by rw [← HC.out]; exact HSL.out) (by omega) (by omega) (by omega), fun j hj => ?_, by rw [← HS.out]; exact HBl.out⟩
        · have := congrArg (fun l => l[j]?) h8
          simp only [List.getElem?_take, NN] at this
          rw [if_pos (by omega)] at this
          rw [← Array.getElem?_toList, this]
          simp [hj]
        · have hss := HS.out
          rcases hj with h | h | h <;> (simp at h; omega)
theorem new_any (k0 k1 : BitVec 64) (h : Int) (w : World) :
    Calls Tryd.prog 20 #[.int .u64 (Sip.U k0), .int .u64 (Sip.U k1), .int .i64 h] w fun e w' => Below w.heap.size w w' ∧ ((needF h = 0 ∧ e = .returned (.pointer none)) ∨ (goodB (needF h) = true ∧ ∃ (p : Pl) (g : Nat), needF h = (g : Int) ∧ e = .returned (.pointer (some ⟨p.b, 0, none⟩)) ∧ At w' p k0 k1 (empty g) ∧ ∀ j, p.own j → w.heap.size ≤ j)) := by
  have HN := Lib.hid (refneed_any h w)
  have hb := needF_bounds h
  by_cases h0 : needF h = 0
  · have H0 := Lib.hid h0
    rw [h0] at HN
    clear h0 hb
    go_enter Tryd.func20, Tryd.ntmps20
    go_wp2_with fail
    refine HN.out.mono ?_
    rintro e w' ⟨rfl, rfl⟩
    go_wp2
    go_ret
    exact ⟨Below.refl _ _, .inl ⟨H0.out, rfl⟩⟩
  · have hgd : goodB (needF h) = true := by
      rcases needF_cases h with ⟨h1, _⟩ | ⟨k, h1, _⟩
      · exact absurd h1 h0
      · rw [h1]; exact goodB_pow k
    have HGD := Lib.hid hgd
    obtain ⟨g, hg⟩ := Int.eq_ofNat_of_zero_le hb.1
    have HG : Hid (needF h = (g : Int)) := hg
    rw [HG.out] at HN
    have h1 : 1 ≤ g := by omega
    have h2 : g ≤ 1024 := by omega
    have hd : ((g : Int) == 0) = false := by simp; omega
    clear h0 hb hgd hg
    go_enter Tryd.func20, Tryd.ntmps20
    go_wp2_with fail
    refine HN.out.mono ?_
    rintro e w' ⟨rfl, rfl⟩
    go_wp2_with fail
    refine (made_any k0 k1 g h1 h2 _).mono ?_
    rintro e w' ⟨p, rfl, hA, hp, hb⟩
    have HA := Lib.hid hA
    have HP := Lib.hid hp
    have HB := Lib.hid hb
    clear hA hp hb
    go_wp2
    go_ret
    exact ⟨HB.out, .inr ⟨HGD.out, p, g, HG.out, rfl, HA.out, HP.out⟩⟩
end Go.Proofs.YtcooapflofiolaaDoor.RM

/- The document's Split. -/
namespace Go.Proofs.YtcooapflofiolaaDoor.RM
open Go Go.RowKit Go.Shelf
set_option linter.unusedVariables false
set_option maxRecDepth 100000
theorem split_any (c a b : Nat) (hc : c = 128 * a + b) (hb : b < 128) (hl : c < 18446744073709551616) (w : World) : Calls Tryd.prog 106 #[.int .u64 (c : Int)] w fun e w' => e = .returned (.tuple #[.int .u64 (a : Int), .int .u8 (b : Int)]) ∧ w = w' := by
  have hw1 : IntKind.u64.wrap ((c : Int) / 128) = (a : Int) := by rw [IntWalk.u64_in _ (by omega)]; omega
  have e1 : (c : Int) / 128 = (a : Int) := by omega
  have e2 : (c : Int) % 128 = (b : Int) := by omega
  have e3 : (b : Int) % 256 = (b : Int) := by omega
  have E1 := Lib.hid hw1
  have E2 := Lib.hid e2
  have E3 := Lib.hid e3
  clear hw1 e1 e2 e3 hc hb hl
  go_enter Tryd.func106, Tryd.ntmps106
  go_wp2
  go_ret2
  rw [E1.out, E2.out]
  exact ⟨rfl, rfl⟩
end Go.Proofs.YtcooapflofiolaaDoor.RM

namespace Go.Proofs.YtcooapflofiolaaDoor.Sip
open Go Go.RowKit
set_option linter.unusedVariables false
set_option linter.unusedSimpArgs false
set_option maxRecDepth 100000
set_option maxHeartbeats 2000000
/-- The state's cell and the result's behind it. -/
def W4 (w : World) (a b c d : BitVec 64) : World := (w.alloc (.cells #[.int .u64 (U a), .int .u64 (U b), .int .u64 (U c), .int .u64 (U d)] 152)).alloc (.cells #[.int .u64 0, .int .u64 0, .int .u64 0, .int .u64 0] 152)
theorem refround_any (v : St) (w : World) : Calls Tryd.prog 121 #[arr v] w fun e w' => e = .returned (arr (rnd v)) ∧ Below w.heap.size w w' := by
  unfold arr
  have a1 := U_add v.a v.b
  have a2 := U_xor (v.b.rotateLeft 13) (v.a + v.b)
  have a3 := U_add v.c v.d
  have a4 := U_xor (v.d.rotateLeft 16) (v.c + v.d)
  have a5 := U_add ((v.a + v.b).rotateLeft 32) (v.d.rotateLeft 16 ^^^ (v.c + v.d))
  have a6 := U_xor ((v.d.rotateLeft 16 ^^^ (v.c + v.d)).rotateLeft 21) ((v.a + v.b).rotateLeft 32 + (v.d.rotateLeft 16 ^^^ (v.c + v.d)))
  have a7 := U_add (v.c + v.d) (v.b.rotateLeft 13 ^^^ (v.a + v.b))
  have a8 := U_xor ((v.b.rotateLeft 13 ^^^ (v.a + v.b)).rotateLeft 17) (v.c + v.d + (v.b.rotateLeft 13 ^^^ (v.a + v.b)))
  go_enter Tryd.func121, Tryd.ntmps121
  go_upto_region 2 with fail
  go_cut [9] (fun s wx => wx = (W4 w (v.a + v.b) (v.b.rotateLeft 13 ^^^ (v.a + v.b)) v.c v.d).drew)
  case first =>
    go_region_with ((go_at_call 128; refine (rotl_any _ 13 (by omega) _).mono ?_; rintro e w' ⟨rfl, rfl⟩))
    all_goals (go_wp2_with fail; go_meet; rfl)
  case rest =>
    subst hcut
    unfold W4
    go_upto_region 5 with (go_at_call 128; refine (rotl_any _ 32 (by omega) _).mono ?_; rintro e w' ⟨rfl, rfl⟩)
    go_cut [26] (fun s wx => wx = (W4 w ((v.a + v.b).rotateLeft 32) (v.b.rotateLeft 13 ^^^ (v.a + v.b)) (v.c + v.d) (v.d.rotateLeft 16 ^^^ (v.c + v.d))).drew.drew)
    case first =>
      go_region_with ((go_at_call 128; refine (rotl_any _ 16 (by omega) _).mono ?_; rintro e w' ⟨rfl, rfl⟩))
      all_goals (go_wp2_with fail; go_meet; rfl)
    case rest =>
      subst hcut
      unfold W4
      go_upto_region 7 with (go_at_call 128; refine (rotl_any _ 32 (by omega) _).mono ?_; rintro e w' ⟨rfl, rfl⟩)
      go_cut [39] (fun s wx => wx = (W4 w (((v.a + v.b).rotateLeft 32) + (v.d.rotateLeft 16 ^^^ (v.c + v.d))) (v.b.rotateLeft 13 ^^^ (v.a + v.b)) (v.c + v.d) ((v.d.rotateLeft 16 ^^^ (v.c + v.d)).rotateLeft 21 ^^^ (((v.a + v.b).rotateLeft 32) + (v.d.rotateLeft 16 ^^^ (v.c + v.d))))).drew.drew.drew)
      case first =>
        go_region_with ((go_at_call 128; refine (rotl_any _ 21 (by omega) _).mono ?_; rintro e w' ⟨rfl, rfl⟩))
        all_goals (go_wp2_with fail; go_meet; rfl)
      case rest =>
        subst hcut
        unfold W4
        go_upto_region 9 with (go_at_call 128; refine (rotl_any _ 32 (by omega) _).mono ?_; rintro e w' ⟨rfl, rfl⟩)
        go_cut [52] (fun s wx => wx = (W4 w (((v.a + v.b).rotateLeft 32) + (v.d.rotateLeft 16 ^^^ (v.c + v.d))) ((v.b.rotateLeft 13 ^^^ (v.a + v.b)).rotateLeft 17 ^^^ ((v.c + v.d) + (v.b.rotateLeft 13 ^^^ (v.a + v.b)))) ((v.c + v.d) + (v.b.rotateLeft 13 ^^^ (v.a + v.b))) ((v.d.rotateLeft 16 ^^^ (v.c + v.d)).rotateLeft 21 ^^^ (((v.a + v.b).rotateLeft 32) + (v.d.rotateLeft 16 ^^^ (v.c + v.d))))).drew.drew.drew.drew)
        case first =>
          go_region_with ((go_at_call 128; refine (rotl_any _ 17 (by omega) _).mono ?_; rintro e w' ⟨rfl, rfl⟩))
          all_goals (go_wp2_with fail; go_meet; rfl)
        case rest =>
          subst hcut
          unfold W4
          go_wp2_with (go_at_call 128; refine (rotl_any _ 32 (by omega) _).mono ?_; rintro e w' ⟨rfl, rfl⟩)
          refine bodyPost_ret (v := .agg #[.int .u64 (U (rnd v).a), .int .u64 (U (rnd v).b), .int .u64 (U (rnd v).c), .int .u64 (U (rnd v).d)]) ?_ rfl ⟨rfl, ?_⟩
          · simp [results, Tryd.results121, go_sem, rnd]
          · exact (((((Below.refl _ w).alloc (Nat.le_refl _) _).alloc (by simp) _).drew).drew).drew.drew
end Go.Proofs.YtcooapflofiolaaDoor.Sip

/- The walks of the reference's block and Sum. -/
namespace Go.Proofs.YtcooapflofiolaaDoor.Sip
open Go Go.RowKit
set_option linter.unusedVariables false
set_option linter.unusedSimpArgs false
set_option maxRecDepth 100000
set_option maxHeartbeats 4000000
theorem below_blk {w w' : World} {b : Nat} (hb : w.heap.size ≤ b) (h : Below w.heap.size w w') (x0 x1 x2 x3 : Value) : Below w.heap.size w ((((w'.setCell ⟨b, 0, none⟩ x0).setCell ⟨b, 1, none⟩ x1).setCell ⟨b, 2, none⟩ x2).setCell ⟨b, 3, none⟩ x3) :=
  (((h.setCell (p := ⟨b, 0, none⟩) hb _).setCell (p := ⟨b, 1, none⟩) hb _).setCell (p := ⟨b, 2, none⟩) hb _).setCell (p := ⟨b, 3, none⟩) hb _
theorem block_any (v : St) (m : BitVec 64) (w : World) : Calls Tryd.prog 120 #[arr v, .int .u64 (U m)] w fun e w' => e = .returned (arr (blk v m)) ∧ Below w.heap.size w w' := by
  have hx := U_xor v.d m
  unfold arr
  go_enter Tryd.func120, Tryd.ntmps120
  go_wp2_with fail
  clear hx
  have B0 : Blk ((w.alloc (.cells #[.int .u64 (U v.a), .int .u64 (U v.b), .int .u64 (U v.c), .int .u64 (U (v.d ^^^ m))] 152)).alloc (.cells #[.int .u64 0, .int .u64 0, .int .u64 0, .int .u64 0] 152)) w.heap.size ⟨v.a, v.b, v.c, v.d ^^^ m⟩ := heap_alloc2_old w _ _
  have B1 : Blk ((w.alloc (.cells #[.int .u64 (U v.a), .int .u64 (U v.b), .int .u64 (U v.c), .int .u64 (U (v.d ^^^ m))] 152)).alloc (.cells #[.int .u64 0, .int .u64 0, .int .u64 0, .int .u64 0] 152)) (w.heap.size + 1) ⟨0, 0, 0, 0⟩ := heap_alloc2_new w _ _
  have W1 : Below w.heap.size w ((w.alloc (.cells #[.int .u64 (U v.a), .int .u64 (U v.b), .int .u64 (U v.c), .int .u64 (U (v.d ^^^ m))] 152)).alloc (.cells #[.int .u64 0, .int .u64 0, .int .u64 0, .int .u64 0] 152)) := ((Below.refl _ w).alloc (Nat.le_refl _) _).alloc (by simp) _
  revert B0 B1 W1
  generalize (w.alloc (.cells #[.int .u64 (U v.a), .int .u64 (U v.b), .int .u64 (U v.c), .int .u64 (U (v.d ^^^ m))] 152)).alloc (.cells #[.int .u64 0, .int .u64 0, .int .u64 0, .int .u64 0] 152) = w1
  intro B0 B1 W1
  refine (refround_any ⟨v.a, v.b, v.c, v.d ^^^ m⟩ w1).mono ?_
  rintro e w2 ⟨rfl, hB2⟩
  unfold arr
  go_wp2_with fail
  refine (refround_any (rnd ⟨v.a, v.b, v.c, v.d ^^^ m⟩) w2).mono ?_
  rintro e w3 ⟨rfl, hB3⟩
  have HB3 := (B0.below hB2).below hB3
  have HC3 := (B1.below hB2).below hB3
  have W3 : Below w.heap.size w w3 := (W1.trans (hB2.mono W1.size)).trans (hB3.mono (Nat.le_trans W1.size hB2.size))
  clear B0 B1 W1 hB2 hB3
  obtain ⟨u, hu0⟩ : ∃ u, u = rnd (rnd ⟨v.a, v.b, v.c, v.d ^^^ m⟩) := ⟨_, rfl⟩
  rw [← hu0]
  have hu := Lib.hid hu0
  clear hu0
  unfold arr
  have q0 := HB3.c0
  have q1 := HB3.c1
  have q2 := HB3.c2
  have q3 := HB3.c3
  have f0 := HB3.frozen 0
  have f1 := HB3.frozen 1
  have f2 := HB3.frozen 2
  have f3 := HB3.frozen 3
  have p0 := HC3.c0
  have p1 := HC3.c1
  have p2 := HC3.c2
  have p3 := HC3.c3
  have g0 := HC3.frozen 0
  have g1 := HC3.frozen 1
  have g2 := HC3.frozen 2
  have g3 := HC3.frozen 3
  have hx := U_xor u.a m
  have HB := Lib.hid HB3
  have HC := Lib.hid HC3
  have HW := Lib.hid W3
  clear HB3 HC3 W3
  go_wp2
  refine bodyPost_ret (v := arr (blk v m)) ?_ rfl ⟨rfl, ?_⟩
  · unfold arr blk
    rw [← hu.out]
    simp [results, Tryd.results120, go_sem, *]
  · exact below_blk (b := w.heap.size + 1) (by omega) ((below_blk (b := w.heap.size) (Nat.le_refl _) HW.out _ _ _ _).setCell (p := ⟨w.heap.size, 0, none⟩) (Nat.le_refl _) _) _ _ _ _
end Go.Proofs.YtcooapflofiolaaDoor.Sip

/- The walk of the reference's Sum. -/
namespace Go.Proofs.YtcooapflofiolaaDoor.Sip
open Go Go.RowKit
set_option linter.unusedVariables false
set_option linter.unusedSimpArgs false
set_option maxRecDepth 100000
set_option maxHeartbeats 1000000
theorem wd_snoc (l : List UInt8) (c : UInt8) : wd (l ++ [c]) = wd l ||| BitVec.ofNat 64 c.toNat <<< (8 * l.length) := by
  induction l with
  | nil => simp [wd]
  | cons a l ih =>
    rw [List.cons_append, wd_cons, ih, wd_cons, BitVec.shiftLeft_or_distrib, ← BitVec.shiftLeft_add, List.length_cons, show 8 * l.length + 8 = 8 * (l.length + 1) by omega, BitVec.or_assoc, BitVec.or_assoc, BitVec.or_comm (BitVec.ofNat 64 c.toNat <<< _)]
theorem byte_or (x : BitVec 64) (c : UInt8) (r : Nat) : bits .or .u64 (U x) (IntKind.u64.wrap (IntKind.u64.wrap (c.toNat : Int) * 2 ^ (8 * r))) = U (x ||| BitVec.ofNat 64 c.toNat <<< (8 * r)) := by
  have hc := c.toNat_lt
  rw [IntWalk.u64_in (c.toNat : Int) (by omega), U_lit c.toNat (by omega), U_shl, U_or]
theorem take_next (s : ByteArray) (k r i : Nat) (hi : i = 8 * k + r) (h : i < s.size) : (s.data.toList.drop (8 * k)).take (r + 1) = (s.data.toList.drop (8 * k)).take r ++ [s[i]] := by
  subst hi
  rw [List.take_succ_eq_append_getElem (by simp; omega)]
  simp [List.getElem_drop]
  rfl
theorem wd_next (s : ByteArray) (k r i : Nat) (hi : i = 8 * k + r) (h : i < s.size) : wd ((s.data.toList.drop (8 * k)).take r) ||| BitVec.ofNat 64 s[i].toNat <<< (8 * r) = wd ((s.data.toList.drop (8 * k)).take (r + 1)) := by
  rw [take_next s k r i hi h, wd_snoc, List.length_take, show min r (s.data.toList.drop (8 * k)).length = r by simp; omega]
theorem shl_mod (n : Nat) : BitVec.ofNat 64 (n % 256) <<< 56 = BitVec.ofNat 64 n <<< 56 := by
  apply BitVec.eq_of_toNat_eq
  rw [BitVec.toNat_shiftLeft, BitVec.toNat_shiftLeft, BitVec.toNat_ofNat, BitVec.toNat_ofNat, Nat.shiftLeft_eq, Nat.shiftLeft_eq]
  omega
theorem refsum_any (k0 k1 : BitVec 64) (s : ByteArray) (hs : s.size ≤ maxLen) (w : World) : Calls Tryd.prog 107 #[.int .u64 (U k0), .int .u64 (U k1), .string s] w fun e w' => e = .returned (.int .u64 (U (sumOf k0 k1 s.data.toList))) ∧ Below w.heap.size w w' := by
  unfold maxLen at hs
  have h1 := x1 k0
  have h2 := x2 k1
  have h3 := x3 k0
  have h4 := x4 k1
  go_enter Tryd.func107, Tryd.ntmps107
  go_wp2_with fail
  clear h1 h2 h3 h4
  go_loopw [8, 9] (fun mv iv wx => ∃ (k r : Nat), r < 8 ∧ 8 * k + r ≤ s.size ∧ iv = .int .i64 ((8 * k + r : Nat) : Int) ∧ mv = .int .u64 (U (wd ((s.data.toList.drop (8 * k)).take r))) ∧ Blk wx w.heap.size (eat (init k0 k1) s.data.toList k) ∧ Below w.heap.size w wx) (fun _ iv _ => s.size - (intOf iv).toNat)
  case atStart => exact ⟨0, 0, by omega, by omega, rfl, rfl, heap_alloc_new w _, (Below.refl _ w).alloc (Nat.le_refl _) _⟩
  case round =>
    obtain ⟨k, r, hr, hk, rfl, rfl, hB, hW⟩ := hrel
    have HB := Lib.hid hB
    have HW := Lib.hid hW
    clear hB hW
    generalize hx : wd ((s.data.toList.drop (8 * k)).take r) = x
    have HX := Lib.hid hx
    clear hx
    by_cases hlt : 8 * k + r < s.size
    · obtain ⟨i, hi⟩ : ∃ i : Nat, i = 8 * k + r := ⟨_, rfl⟩
      rw [← hi] at hlt ⊢
      have hm : (i : Int).tmod 8 = (r : Int) := by rw [Int.tmod_eq_emod_of_nonneg (by omega)]; omega
      have hw8 : IntKind.i64.wrap (8 * (r : Int)) = 8 * (r : Int) := IntWalk.i64_in _ (by omega)
      have HI := Lib.hid hi
      clear hi hk
      have hor := byte_or x s[i] r
      rw [← HX.out, wd_next s k r i HI.out hlt] at hor
      rw [HX.out] at hor
      cases h7 : ((r : Int) == 7)
      · go_wp2
        go_roundw
        case rel =>
          have h7' : r ≠ 7 := by rintro rfl; simp at h7
          have := HI.out
          exact ⟨k, r + 1, by omega, by omega, by rw [show 8 * k + (r + 1) = i + 1 by omega]; go_num, rfl, HB.out, HW.out⟩
        case measure => simp [intOf]; omega
      · have h7' : r = 7 := by have := of_decide_eq_true h7; omega
        have H7 := Lib.hid h7'
        clear h7'
        have hB := HB.out
        have q0 := hB.c0
        have q1 := hB.c1
        have q2 := hB.c2
        have q3 := hB.c3
        clear hB
        go_wp2_with fail
        refine (block_any (eat (init k0 k1) s.data.toList k) _ wr).mono ?_
        rintro e w2 ⟨rfl, hB2⟩
        have HB2 := HB.out.below hB2
        have HW2 := Lib.hid (HW.out.trans (hB2.mono HW.out.size))
        clear q0 q1 q2 q3 hB2
        have he : blk (eat (init k0 k1) s.data.toList k) (wd ((s.data.toList.drop (8 * k)).take (r + 1))) = eat (init k0 k1) s.data.toList (k + 1) := by rw [H7.out]; rfl
        rw [he]
        clear he
        generalize hu : eat (init k0 k1) s.data.toList (k + 1) = u
        have HU := Lib.hid hu
        clear hu
        unfold arr
        have q0 := HB2.c0
        have q1 := HB2.c1
        have q2 := HB2.c2
        have q3 := HB2.c3
        have f0 := HB2.frozen 0
        have f1 := HB2.frozen 1
        have f2 := HB2.frozen 2
        have f3 := HB2.frozen 3
        have HB3 := Lib.hid HB2
        clear HB2
        go_wp2
        go_roundw
        case rel =>
          have := HI.out
          have := H7.out
          refine ⟨k + 1, 0, by omega, by omega, ?_, rfl, by rw [HU.out]; exact HB3.out.all u, below_blk (Nat.le_refl _) HW2.out _ _ _ _⟩
          rw [show 8 * (k + 1) + 0 = i + 1 by omega]; go_num
        case measure => simp [intOf]; omega
    · have hkr : 8 * k + r = s.size := by omega
      have HX2 : Hid (x = wd (s.data.toList.drop (8 * k))) := by
        show x = _
        rw [← HX.out, List.take_of_length_le (by simp; omega)]
      have HK : Hid (s.data.toList.length / 8 = k) := by show _ = _; simp; omega
      have hm : (s.size : Int).tmod 256 = ((s.size % 256 : Nat) : Int) := by rw [Int.tmod_eq_emod_of_nonneg (by omega)]; omega
      have hlast := last_w x (s.size % 256) (by omega)
      rw [shl_mod] at hlast
      generalize hq : s.size % 256 = q at *
      have hq2 : q ≤ 255 := by omega
      clear hq
      rw [IntWalk.u64_in _ (by omega)] at hlast
      have hB := HB.out
      have q0 := hB.c0
      have q1 := hB.c1
      have q2 := hB.c2
      have q3 := hB.c3
      clear hB
      rw [hkr]
      clear hlt hk hkr
      have HL := Lib.hid hlast
      clear hlast
      go_wp2_with fail
      rw [HL.out]
      refine (block_any (eat (init k0 k1) s.data.toList k) _ wr).mono ?_
      rintro e w2 ⟨rfl, hB2⟩
      have HB2 := HB.out.below hB2
      have HW2 := Lib.hid (HW.out.trans (hB2.mono HW.out.size))
      clear q0 q1 q2 q3 hB2
      obtain ⟨v5, hv5⟩ : ∃ v5, v5 = blk (eat (init k0 k1) s.data.toList k) (x ||| BitVec.ofNat 64 s.size <<< 56) := ⟨_, rfl⟩
      rw [← hv5]
      have HV5 := Lib.hid hv5
      clear hv5
      unfold arr
      have q0 := HB2.c0
      have q1 := HB2.c1
      have q2 := HB2.c2
      have q3 := HB2.c3
      have f0 := HB2.frozen 0
      have f1 := HB2.frozen 1
      have f2 := HB2.frozen 2
      have f3 := HB2.frozen 3
      have HB3 := Lib.hid HB2
      clear HB2
      go_upto_region 11 with fail
      clear q0 q1 q2 q3 f0 f1 f2 f3 hm hq2 hr HX
      have B4 := HB3.out.all v5
      have W4' := below_blk (Nat.le_refl _) HW2.out (.int .u64 (U v5.a)) (.int .u64 (U v5.b)) (.int .u64 (U v5.c)) (.int .u64 (U v5.d))
      revert B4 W4'
      generalize World.setCell _ _ _ = w3
      intro B4 W4'
      have q0 := B4.c0
      have q1 := B4.c1
      have q2 := B4.c2
      have q3 := B4.c3
      have f2 := B4.frozen 2
      have hx := x5 v5.c
      have HB4 := Lib.hid B4
      have HW4 := Lib.hid W4'
      clear B4 W4'
      go_upto_region 12 with fail
      clear q0 q1 q2 q3 f2 hx
      have B4 := HB4.out.set2 (v5.c ^^^ 255)
      have W4' := HW4.out.setCell (p := ⟨w.heap.size, 2, none⟩) (Nat.le_refl _) (.int .u64 (U (v5.c ^^^ 255)))
      revert B4 W4'
      generalize World.setCell _ _ _ = w4
      intro B4 W4'
      have q0 := B4.c0
      have q1 := B4.c1
      have q2 := B4.c2
      have q3 := B4.c3
      have HB4' := Lib.hid B4
      have HW4' := Lib.hid W4'
      clear B4 W4' HB4 HW4
      go_wp2_with fail
      clear q0 q1 q2 q3
      have B4 := HB4'.out
      have W4' := HW4'.out
      refine (refround_any (c255 v5) w4).mono ?_
      rintro e w5 ⟨rfl, h5⟩
      have B5 := B4.below h5
      have W5 := W4'.trans (h5.mono W4'.size)
      clear B4 W4' h5
      unfold arr
      go_wp2_with fail
      refine (refround_any (rnd (c255 v5)) w5).mono ?_
      rintro e w6 ⟨rfl, h6⟩
      have B6 := B5.below h6
      have W6 := W5.trans (h6.mono W5.size)
      clear B5 W5 h6
      unfold arr
      go_wp2_with fail
      refine (refround_any (rnd (rnd (c255 v5))) w6).mono ?_
      rintro e w7 ⟨rfl, h7⟩
      have B7 := B6.below h7
      have W7 := W6.trans (h7.mono W6.size)
      clear B6 W6 h7
      unfold arr
      go_wp2_with fail
      refine (refround_any (rnd (rnd (rnd (c255 v5)))) w7).mono ?_
      rintro e w8 ⟨rfl, h8⟩
      have B8 := B7.below h8
      have W8 := W7.trans (h8.mono W7.size)
      clear B7 W7 h8
      obtain ⟨v6, hv6⟩ : ∃ v6, v6 = rnd (rnd (rnd (rnd (c255 v5)))) := ⟨_, rfl⟩
      rw [← hv6]
      have HV6 := Lib.hid hv6
      clear hv6
      unfold arr
      have q0 := B8.c0
      have q1 := B8.c1
      have q2 := B8.c2
      have q3 := B8.c3
      have f0 := B8.frozen 0
      have f1 := B8.frozen 1
      have f2 := B8.frozen 2
      have f3 := B8.frozen 3
      have HB8 := Lib.hid B8
      have HW8 := Lib.hid W8
      clear B8 W8
      have y1 := U_xor v6.a v6.b
      have y2 := U_xor (v6.a ^^^ v6.b) v6.c
      have y3 := U_xor (v6.a ^^^ v6.b ^^^ v6.c) v6.d
      have hsum : sumOf k0 k1 s.data.toList = fin v6 := by
        unfold sumOf
        rw [HK.out, HV6.out, HV5.out, HX2.out]
        simp
      have HSUM := Lib.hid hsum
      clear hsum
      go_wp2
      go_ret
      exact ⟨ret_int (by rw [HSUM.out]; rfl), below_blk (Nat.le_refl _) HW8.out _ _ _ _⟩
end Go.Proofs.YtcooapflofiolaaDoor.Sip

/- The document's map: Find. -/
namespace Go.Proofs.YtcooapflofiolaaDoor.RM
open Go Go.RowKit Go.Shelf
set_option linter.unusedVariables false
set_option linter.unusedSimpArgs false
set_option maxRecDepth 100000
set_option maxHeartbeats 4000000
theorem find_any (p : Pl) (k0 k1 : BitVec 64) (m : Mp ByteArray) (key : ByteArray) (hks : key.size ≤ maxLen) (w : World) (h : At w p k0 k1 m) (I : MInv (hashN k0 k1) m) :
    Calls Tryd.prog 73 #[.pointer (some ⟨p.b, 0, none⟩), .string key] w fun e w' => e = .returned (.int .i64 (toI (find (hashN k0 k1) m key))) ∧ Below w.heap.size w w' := by
  have HA := Lib.hid h
  have HI := Lib.hid I
  obtain ⟨c, a, b, hc, ha, hb, he, hb1, hc1⟩ := hash_parts k0 k1 key
  have SK : Hid (∀ W, Below w.heap.size w W → W.cell? ⟨p.b, 0, none⟩ = some (.int .u64 (Sip.U k0)) ∧ W.cell? ⟨p.b, 1, none⟩ = some (.int .u64 (Sip.U k1))) := by
    show ∀ W, _
    intro W hW
    exact ⟨low_cell hW (Nat.le_refl _) h.c0, low_cell hW (Nat.le_refl _) h.c1⟩
  have HS : Hid (∀ W, Calls Tryd.prog 107 #[.int .u64 (Sip.U k0), .int .u64 (Sip.U k1), .string key] W fun e w' => e = .returned (.int .u64 (c : Int)) ∧ Below W.heap.size W w') := by
    show ∀ W, _
    intro W
    subst hc
    exact Sip.refsum_any k0 k1 key hks W
  have HP : Hid (∀ W, Calls Tryd.prog 106 #[.int .u64 (c : Int)] W fun e w' => e = .returned (.tuple #[.int .u64 (a : Int), .int .u8 (b : Int)]) ∧ W = w') := fun W => split_any c a b he hb1 hc1 W
  have HF : Hid (find (hashN k0 k1) m key = findL m b key (grps a m.ws.length)) := by show _ = _; unfold find; rw [ha, hb]
  have HAB : Hid (a < 18446744073709551616 ∧ b < 128) := ⟨by omega, hb1⟩
  clear h I hks hc ha hb he hb1 hc1
  go_enter Tryd.func73, Tryd.ntmps73
  go_upto_region 1 with fail
  go_cut [5, 6] (fun hv bv wx => hv = .int .u64 (a : Int) ∧ bv = .int .u8 (b : Int) ∧ Below w.heap.size w wx)
  case first =>
    have Lx : Hid (Below w.heap.size w w.drew) := (Below.refl _ _).drew
    go_region_held3 (fun W => W.cell? ⟨p.b, 0, none⟩ = some (.int .u64 (Sip.U k0)) ∧ W.cell? ⟨p.b, 1, none⟩ = some (.int .u64 (Sip.U k1)))
      (first | (refine SK.out _ ?_; repeat (first | exact Below.refl _ _ | exact HB3.out | refine Below.drew ?_)))
      (first
        | (go_at_call 107; refine (HS.out _).mono ?_; rintro e w3 ⟨rfl, hb3⟩; have HB3 : Hid (Below w.heap.size w w3) := (by first | exact hb3 | exact Lx.out.trans hb3))
        | (go_at_call 106; refine (HP.out _).mono ?_; rintro e w' ⟨rfl, rfl⟩))
    all_goals (go_wp2_with fail; go_meet; exact ⟨rfl, rfl, HB3.out⟩)
  case rest =>
    obtain ⟨rfl, rfl, hbc⟩ := hcut
    have HBC := Lib.hid hbc
    have A1 := Lib.hid (HA.out.below (Nat.le_refl _) hbc)
    have c2 := A1.out.c2
    clear hbc
    obtain ⟨g, hg⟩ : ∃ g, g = m.ws.length := ⟨_, rfl⟩
    have hgl := HI.out.len
    have HGD := Lib.hid HI.out.gd
    rw [← hg] at c2 hgl HGD
    have HG := Lib.hid hg
    clear hg
    have HSQ := Lib.hid (refseq_any (a : Int) (g : Int) (by omega) (by have := HAB.out.1; omega) wc)
    have HL : Hid (seqL (a : Int) (g : Int) = (List.range g).map fun k => (el a g k : Int)) := by show _ = _; rw [seqL_good HGD.out]; rfl
    rw [HL.out] at HSQ
    go_wp2_with fail
    refine HSQ.out.mono ?_
    rintro e w2 ⟨v, rfl, hv, hb2⟩
    have hll : ((List.range g).map fun k => (el a g k : Int)).length = g := by simp
    rw [hll] at hv
    obtain ⟨va, vc, rfl, hvc⟩ := own_val hv
    have HV := Lib.hid hv
    have A2 := Lib.hid (A1.out.below (Nat.le_refl _) hb2)
    have B2 : Hid (Below w.heap.size w w2) := HBC.out.trans (hb2.mono HBC.out.size)
    clear hv hb2 hll hvc c2
    go_wp2
    go_loopw [32] (fun i wr => ∃ k : Nat, k ≤ g ∧ i = .int .i64 k ∧ findL m b key ((grps a g).drop k) = findL m b key (grps a g) ∧ wr = w2) (fun i _ => g - (intOf i).toNat)
    case atStart => exact ⟨0, by omega, rfl, rfl, rfl⟩
    case round =>
      obtain ⟨k, hk, rfl, hfk, hww⟩ := hrel
      obtain ⟨w3, hw3⟩ : ∃ w3, w3 = wr := ⟨_, rfl⟩
      rw [← hw3] at hww ⊢
      have HWW := Lib.hid hww
      have HFK := Lib.hid hfk
      have A3 : Hid (At w3 p k0 k1 m) := by rw [hww]; exact A2.out
      have B3 : Hid (Below w.heap.size w w3) := by rw [hww]; exact B2.out
      clear hww hw3 hfk
      by_cases hlt : k < g
      · have hd : decide ((k : Int) < (g : Int)) = true := decide_eq_true (by omega)
        have hkn : (k : Int) < (g : Int) := by omega
        obtain ⟨gg, cap, hv, _, _, _, hcells⟩ := own_read HV.out (by omega)
        injection hv with hva _ hvc'
        subst hva
        obtain ⟨j, hj⟩ : ∃ j, j = el a g k := ⟨_, rfl⟩
        have hjg : j < g := by rw [hj]; exact el_lt _ _ _ (by omega)
        have s0 := hcells k (.int .i64 (j : Nat)) (by simp [hlt, hj])
        rw [← HWW.out] at s0
        have hdr : (grps a g).drop k = j :: (grps a g).drop (k + 1) := by
          rw [List.drop_eq_getElem_cons (by rw [grps_len]; exact hlt)]
          congr 1
          have := grps_getD a g k hlt
          rw [List.getElem?_eq_getElem (by rw [grps_len]; exact hlt)] at this
          injection this with this
          rw [this, hj]
        have HDR := Lib.hid hdr
        have hjn : (j : Int) < (g : Int) := by omega
        have c2 := A3.out.c2
        have c3 := A3.out.c3
        rw [← HG.out] at c2 c3
        have wc' := A3.out.wc (j := j) (by rw [← HG.out]; exact hjg)
        have hwl := HI.out.wl j
        clear hcells hj hdr hvc'
        go_wp2
        go_loopw [9] (fun i wr => ∃ t : Nat, t ≤ 8 ∧ i = .int .i64 t ∧ (∀ q, q < t → hit m b key j q = false) ∧ wr = w3) (fun i _ => 8 - (intOf i).toNat)
        case atStart => exact ⟨0, by omega, rfl, fun q hq => by omega, rfl⟩
        case round =>
          obtain ⟨t, ht, rfl, hno, hww⟩ := hrel
          obtain ⟨w4, hw4⟩ : ∃ w4, w4 = wr := ⟨_, rfl⟩
          rw [← hw4] at hww ⊢
          rw [← hww] at c2 c3 wc'
          have HW4 := Lib.hid hww
          have HNO := Lib.hid hno
          have A4 : Hid (At w4 p k0 k1 m) := by rw [hww]; exact A3.out
          have B4 : Hid (Below w.heap.size w w4) := by rw [hww]; exact B3.out
          clear hww hw4 hno
          by_cases hlt2 : t < 8
          · have hd2 : decide ((t : Int) < 8) = true := decide_eq_true (by omega)
            have HGT := Lib.hid (fun W => refget_any (m.w j) (t : Int) hwl W)
            rw [ix_nat hlt2] at HGT
            have hi8 : 8 * j + t < 8 * m.ws.length := by rw [← HG.out]; omega
            have sk := A4.out.sk hi8
            have hw1 : IntKind.i64.wrap (8 * (j : Int)) = 8 * (j : Int) := IntWalk.i64_in _ (by omega)
            have hw2 : IntKind.i64.wrap (8 * (j : Int) + (t : Int)) = ((8 * j + t : Nat) : Int) := by rw [IntWalk.i64_in _ (by omega)]; omega
            have hdiv : (8 * j + t) / 8 = j ∧ (8 * j + t) % 8 = t := by omega
            have hjt : ((8 * j + t : Nat) : Int) < 8 * (g : Int) := by omega
            obtain ⟨x, hx⟩ : ∃ x, x = gt (m.w j) t := ⟨_, rfl⟩
            rw [← hx] at HGT
            have hxb : x < 256 := by rw [hx]; exact gt_lt _ _
            obtain ⟨kk, hkk⟩ : ∃ kk, kk = (m.s (8 * j + t)).1 := ⟨_, rfl⟩
            rw [← hkk] at sk
            have HX := Lib.hid hx
            have HKK := Lib.hid hkk
            obtain ⟨ii, hii⟩ : ∃ ii : Nat, ii = 8 * j + t := ⟨_, rfl⟩
            rw [← hii] at sk hw2 hjt
            have HII := Lib.hid hii
            clear hx hkk hii hdiv
            by_cases hg1 : x = b
            · have hd3 : ((x : Int) == (b : Int)) = true := by rw [hg1]; simp
              by_cases hk2 : kk = key
              · have hb2 : (kk.toList == key.toList) = true := by rw [beq_toList]; exact decide_eq_true hk2
                have HFOUND : Hid (find (hashN k0 k1) m key = some ii) := by
                  show _ = _
                  rw [HF.out, ← HG.out, ← HFK.out, HDR.out, HII.out]
                  refine findL_found (find8_some hlt2 ?_ HNO.out)
                  unfold hit
                  rw [← HX.out, hg1, ← HKK.out, hk2]; simp
                clear hg1 hk2
                go_wp2_with fail
                refine (HGT.out _).mono ?_
                rintro e w5 ⟨rfl, rfl⟩
                go_wp2
                go_ret
                exact ⟨by rw [HFOUND.out]; rfl, B4.out⟩
              · have hb2 : (kk.toList == key.toList) = false := by rw [beq_toList]; exact decide_eq_false hk2
                have HH : Hid (hit m b key j t = false) := by show _ = _; unfold hit; rw [← HKK.out, decide_eq_false hk2, Bool.and_false]
                clear hg1 hk2
                go_wp2_with fail
                refine (HGT.out _).mono ?_
                rintro e w5 ⟨rfl, rfl⟩
                go_wp2
                go_roundw
                case rel =>
                  refine ⟨t + 1, by omega, by go_num, fun q hq => ?_, HW4.out⟩
                  rcases Nat.lt_succ_iff_lt_or_eq.1 hq with h1 | rfl
                  · exact HNO.out q h1
                  · exact HH.out
                case measure => simp [intOf]; omega
            · have hd3 : ((x : Int) == (b : Int)) = false := by simp; omega
              have HH : Hid (hit m b key j t = false) := by show _ = _; unfold hit; rw [← HX.out, beq_false_of_ne hg1, Bool.false_and]
              clear hg1
              go_wp2_with fail
              refine (HGT.out _).mono ?_
              rintro e w5 ⟨rfl, rfl⟩
              go_wp2
              go_roundw
              case rel =>
                refine ⟨t + 1, by omega, by go_num, fun q hq => ?_, HW4.out⟩
                rcases Nat.lt_succ_iff_lt_or_eq.1 hq with h1 | rfl
                · exact HNO.out q h1
                · exact HH.out
              case measure => simp [intOf]; omega
          · obtain rfl : t = 8 := by omega
            have hd2 : decide (((8 : Nat) : Int) < 8) = false := by decide
            have HM := Lib.hid (fun W => refmatch_any (m.w j) 128 hwl (by omega) W)
            have HIN : Hid (inG m b key j = none) := find8_none HNO.out
            have HE : Hid (empB m j = decide (mch (m.w j) 128 ≠ 0)) := emp_mch rfl
            obtain ⟨x, hx⟩ : ∃ x, x = mch (m.w j) 128 := ⟨_, rfl⟩
            rw [← hx] at HM HE
            clear hx
            by_cases hx0 : x = 0
            · have hd3 : ((x : Int) != 0) = false := by rw [hx0]; rfl
              have HN : Hid (findL m b key ((grps a g).drop (k + 1)) = findL m b key (grps a g)) := by
                show _ = _
                rw [← HFK.out, HDR.out, findL_on HIN.out (by rw [HE.out, hx0]; rfl)]
              have HW3 : Hid (w4 = w2) := HW4.out.trans HWW.out
              clear hx0
              go_wp2_with fail
              refine (HM.out _).mono ?_
              rintro e w5 ⟨rfl, rfl⟩
              go_wp2
              go_roundw
              case rel => exact ⟨k + 1, by omega, by go_num, HN.out, HW3.out⟩
              case measure => simp [intOf]; omega
            · have hd3 : ((x : Int) != 0) = true := by simp; omega
              have HN : Hid (find (hashN k0 k1) m key = none) := by
                show _ = _
                rw [HF.out, ← HG.out, ← HFK.out, HDR.out, findL_stop HIN.out (by rw [HE.out]; simpa using hx0)]
              clear hx0
              go_wp2_with fail
              refine (HM.out _).mono ?_
              rintro e w5 ⟨rfl, rfl⟩
              go_wp2
              go_ret
              exact ⟨by rw [HN.out]; rfl, B4.out⟩
      · obtain rfl : k = g := by omega
        have hd : decide ((k : Int) < (k : Int)) = false := decide_eq_false (by omega)
        have HN : Hid (find (hashN k0 k1) m key = none) := by
          show _ = _
          rw [HF.out, ← HG.out, ← HFK.out, List.drop_eq_nil_of_le (by rw [grps_len]; exact Nat.le_refl _)]; rfl
        go_wp2
        go_ret
        exact ⟨by rw [HN.out]; rfl, B3.out⟩
end Go.Proofs.YtcooapflofiolaaDoor.RM

/- The document's map: lay. -/
namespace Go.Proofs.YtcooapflofiolaaDoor.RM
open Go Go.RowKit Go.Shelf
attribute [local go_sem] Oper.semAt_some
set_option linter.unusedVariables false
set_option linter.unusedSimpArgs false
set_option maxRecDepth 100000
set_option maxHeartbeats 4000000
theorem lay_any (p : Pl) (k0 k1 : BitVec 64) (m : Mp ByteArray) (key u : ByteArray) (hks : key.size ≤ maxLen) (w : World) (h : At w p k0 k1 m) (I : MInv (hashN k0 k1) m) :
    Calls Tryd.prog 75 #[.pointer (some ⟨p.b, 0, none⟩), .string key, .string u] w fun e w' => e = .returned (.tuple #[]) ∧ At w' p k0 k1 (lay (hashN k0 k1) m (key, u)) ∧ Kept p.own w w' := by
  have HA := Lib.hid h
  have HI := Lib.hid I
  obtain ⟨c, a, b, hc, ha, hb, he, hb1, hc1⟩ := hash_parts k0 k1 key
  have SK : Hid (∀ W, Below w.heap.size w W → W.cell? ⟨p.b, 0, none⟩ = some (.int .u64 (Sip.U k0)) ∧ W.cell? ⟨p.b, 1, none⟩ = some (.int .u64 (Sip.U k1))) := by
    show ∀ W, _
    intro W hW
    exact ⟨low_cell hW (Nat.le_refl _) h.c0, low_cell hW (Nat.le_refl _) h.c1⟩
  have HS : Hid (∀ W, Calls Tryd.prog 107 #[.int .u64 (Sip.U k0), .int .u64 (Sip.U k1), .string key] W fun e w' => e = .returned (.int .u64 (c : Int)) ∧ Below W.heap.size W w') := by
    show ∀ W, _
    intro W
    subst hc
    exact Sip.refsum_any k0 k1 key hks W
  have HP : Hid (∀ W, Calls Tryd.prog 106 #[.int .u64 (c : Int)] W fun e w' => e = .returned (.tuple #[.int .u64 (a : Int), .int .u8 (b : Int)]) ∧ W = w') := fun W => split_any c a b he hb1 hc1 W
  have HF : Hid (lay (hashN k0 k1) m (key, u) = layL m b (key, u) (grps a m.ws.length)) := by show _ = _; unfold lay; rw [ha, hb]
  have HAB : Hid (a < 18446744073709551616 ∧ b < 128) := ⟨by omega, hb1⟩
  clear h I hks hc ha hb he hb1 hc1
  go_enter Tryd.func75, Tryd.ntmps75
  go_upto_region 0 with fail
  go_cut [6, 7] (fun hv bv wx => hv = .int .u64 (a : Int) ∧ bv = .int .u8 (b : Int) ∧ Below w.heap.size w wx)
  case first =>
    have Lx : Hid (Below w.heap.size w w.drew) := (Below.refl _ _).drew
    go_region_held3 (fun W => W.cell? ⟨p.b, 0, none⟩ = some (.int .u64 (Sip.U k0)) ∧ W.cell? ⟨p.b, 1, none⟩ = some (.int .u64 (Sip.U k1)))
      (first | (refine SK.out _ ?_; repeat (first | exact Below.refl _ _ | exact HB3.out | refine Below.drew ?_)))
      (first
        | (go_at_call 107; refine (HS.out _).mono ?_; rintro e w3 ⟨rfl, hb3⟩; have HB3 : Hid (Below w.heap.size w w3) := (by first | exact hb3 | exact Lx.out.trans hb3))
        | (go_at_call 106; refine (HP.out _).mono ?_; rintro e w' ⟨rfl, rfl⟩))
    all_goals (go_wp2_with fail; go_meet; exact ⟨rfl, rfl, HB3.out⟩)
  case rest =>
    obtain ⟨rfl, rfl, hbc⟩ := hcut
    have HBC := Lib.hid hbc
    have A1 := Lib.hid (HA.out.below (Nat.le_refl _) hbc)
    have c2 := A1.out.c2
    clear hbc
    obtain ⟨g, hg⟩ : ∃ g, g = m.ws.length := ⟨_, rfl⟩
    have hgl := HI.out.len
    have HGD := Lib.hid HI.out.gd
    rw [← hg] at c2 hgl HGD
    have HG := Lib.hid hg
    clear hg
    have HSQ := Lib.hid (refseq_any (a : Int) (g : Int) (by omega) (by have := HAB.out.1; omega) wc)
    have HL : Hid (seqL (a : Int) (g : Int) = (List.range g).map fun k => (el a g k : Int)) := by show _ = _; rw [seqL_good HGD.out]; rfl
    rw [HL.out] at HSQ
    go_wp2_with fail
    refine HSQ.out.mono ?_
    rintro e w2 ⟨v, rfl, hv, hb2⟩
    have hll : ((List.range g).map fun k => (el a g k : Int)).length = g := by simp
    rw [hll] at hv
    obtain ⟨va, vc, rfl, hvc⟩ := own_val hv
    have HV := Lib.hid hv
    have A2 := Lib.hid (A1.out.below (Nat.le_refl _) hb2)
    have B2 : Hid (Below w.heap.size w w2) := HBC.out.trans (hb2.mono HBC.out.size)
    clear hv hb2 hll hvc c2
    go_wp2
    go_loopw [33] (fun i wr => ∃ k : Nat, k ≤ g ∧ i = .int .i64 k ∧ layL m b (key, u) ((grps a g).drop k) = layL m b (key, u) (grps a g) ∧ wr = w2) (fun i _ => g - (intOf i).toNat)
    case atStart => exact ⟨0, by omega, rfl, rfl, rfl⟩
    case round =>
      obtain ⟨k, hk, rfl, hfk, hww⟩ := hrel
      obtain ⟨w3, hw3⟩ : ∃ w3, w3 = wr := ⟨_, rfl⟩
      rw [← hw3] at hww ⊢
      have HWW := Lib.hid hww
      have HFK := Lib.hid hfk
      have A3 : Hid (At w3 p k0 k1 m) := by rw [hww]; exact A2.out
      have B3 : Hid (Below w.heap.size w w3) := by rw [hww]; exact B2.out
      clear hww hw3 hfk
      by_cases hlt : k < g
      · have hd : decide ((k : Int) < (g : Int)) = true := decide_eq_true (by omega)
        have hkn : (k : Int) < (g : Int) := by omega
        obtain ⟨gg, cap, hv, _, _, _, hcells⟩ := own_read HV.out (by omega)
        injection hv with hva _ hvc'
        subst hva
        obtain ⟨j, hj⟩ : ∃ j, j = el a g k := ⟨_, rfl⟩
        have hjg : j < g := by rw [hj]; exact el_lt _ _ _ (by omega)
        have s0 := hcells k (.int .i64 (j : Nat)) (by simp [hlt, hj])
        rw [← HWW.out] at s0
        have hdr : (grps a g).drop k = j :: (grps a g).drop (k + 1) := by
          rw [List.drop_eq_getElem_cons (by rw [grps_len]; exact hlt)]
          congr 1
          have := grps_getD a g k hlt
          rw [List.getElem?_eq_getElem (by rw [grps_len]; exact hlt)] at this
          injection this with this
          rw [this, hj]
        have HDR := Lib.hid hdr
        have hjn : (j : Int) < (g : Int) := by omega
        have c2 := A3.out.c2
        rw [← HG.out] at c2
        have hv := HI.out.wl j
        obtain ⟨v, hvv⟩ : ∃ v, v = m.w j := ⟨_, rfl⟩
        have cw := A3.out.wc (j := j) (by rw [← HG.out]; exact hjg)
        rw [← hvv] at hv cw
        have HVV := Lib.hid hvv
        have HVL := Lib.hid hv
        obtain ⟨n, hn⟩ : ∃ n, n = fre v := ⟨_, rfl⟩
        have hn2 : n < 256 := by rw [hn]; exact fre_lt v
        have HFR : Hid (∀ W, Calls Tryd.prog 34 #[.int .u64 (v : Int)] W (fun e w' => e = .returned (.int .u8 (n : Nat)) ∧ W = w')) := by rw [hn]; exact fun W => reffree_any v HVL.out W
        obtain ⟨q, hq⟩ : ∃ q, q = firstF n := ⟨_, rfl⟩
        have HFI : Hid (∀ W, Calls Tryd.prog 109 #[.int .u8 (n : Int)] W (fun e w' => e = .returned (.int .i64 (q : Nat)) ∧ W = w')) := by rw [hq]; exact fun W => reffirst_any n hn2 W
        have HN := Lib.hid hn
        have HQ := Lib.hid hq
        clear hcells hj hdr hvc' hvv hv hn hq
        by_cases h0 : n = 0
        · have hq8 : q = 8 := by rw [HQ.out, h0]; rfl
          have hq0 : freeAt m j = none := by
            unfold freeAt
            refine find8_none fun i hi => ?_
            have := bit_fre v i hi
            rw [← HN.out, h0] at this
            rw [← HVV.out, ← this]; simp
          rw [hq8] at HFI
          have HN1 : Hid (layL m b (key, u) ((grps a g).drop (k + 1)) = layL m b (key, u) (grps a g)) := by
            show _ = _
            rw [← HFK.out, HDR.out]
            conv => rhs; rw [layL, hq0]
          clear h0 hq8 hq0
          go_wp2_with fail
          refine (HFR.out _).mono ?_
          rintro e' w4 ⟨rfl, rfl⟩
          go_wp2_with fail
          refine (HFI.out _).mono ?_
          rintro e' w4 ⟨rfl, rfl⟩
          go_wp2
          go_roundw
          case rel => exact ⟨k + 1, by omega, by go_num, HN1.out, HWW.out⟩
          case measure => simp [intOf]; omega
        · have hf : q < 8 := by rw [HQ.out]; exact first_lt hn2 h0
          have HF1 : Hid (n.testBit q = true) := by show _ = _; rw [HQ.out]; exact first_bit hn2 h0
          have HLE : Hid (∀ i, i < 8 → n.testBit i = true → q ≤ i) := by rw [HQ.out]; exact fun i hi h => first_le hn2 hi h
          have hq8 : ((q : Int) == 8) = false := by simp; omega
          have hq0 : freeAt m j = some q := by
            unfold freeAt
            refine find8_some hf ?_ fun i hi => ?_
            · have := bit_fre v q hf
              rw [← HN.out, HF1.out] at this
              rw [← HVV.out]; exact this.symm
            · have h1 : n.testBit i = false := by
                cases hb : n.testBit i with
                | false => rfl
                | true => have := HLE.out i (by omega) hb; omega
              have := bit_fre v i (by omega)
              rw [← HN.out, h1] at this
              rw [← HVV.out]; exact this.symm
          have HQ0 := Lib.hid hq0
          have HGT : Hid (∀ W, Calls Tryd.prog 80 #[.int .u64 (v : Int), .int .i64 (q : Int)] W (fun e w' => e = .returned (.int .u8 (gt v q : Nat)) ∧ W = w')) := fun W => (refget_any v (q : Int) HVL.out W).mono fun _ _ ⟨h1, h2⟩ => ⟨by rw [h1, ix_nat hf], h2⟩
          have HC3 : Hid (∀ W, CallsIn Fence.wide 3 Tryd.prog 77 #[.int .u64 (v : Int), .int .i64 (q : Int), .int .u8 (b : Int)] W (fun e w' => e = .returned (.int .u64 (st v q b : Nat)) ∧ w' = W)) := fun W => callsIn_wide.2 ((refset_any v b (q : Int) HVL.out (by have := HAB.out.2; omega) W).mono fun _ _ ⟨h1, h2⟩ => ⟨by rw [h1, ix_nat hf], h2.symm⟩)
          obtain ⟨t, ht⟩ : ∃ t : Nat, t = if m.c (8 * j + q) = 254 then m.tb - 1 else m.tb := ⟨_, rfl⟩
          have hcq : m.c (8 * j + q) = gt v q := by rw [c_at m j hf, HVV.out]
          rw [hcq] at ht
          have hcz : gt v q = 254 → 0 < m.tb := fun h => by
            have h1 := HI.out.ctb
            have := cnt_set (p := fun i => m.c i == 254) (q := fun i => if i = 8 * j + q then false else m.c i == 254) (i := 8 * j + q) (n := 8 * m.ws.length) (by have := HG.out; omega) (fun j hj hne => by simp [hne])
            rw [h1]; simp [hcq, h] at this; omega
          have HT' := Lib.hid ht
          have HCZ := Lib.hid hcz
          have htb : m.tb ≤ 7168 := by have := HI.out.ld; have := HI.out.len; omega
          clear ht hcz hcq h0 hq0
          go_upto_if 57 with (first | (go_at_call 34; (with_reducible refine (HFR.out _).mono ?_); rintro e' w' ⟨rfl, rfl⟩) | (go_at_call 109; (with_reducible refine (HFI.out _).mono ?_); rintro e' w' ⟨rfl, rfl⟩) | (go_at_call 80; (with_reducible refine (HGT.out _).mono ?_); rintro e' w' ⟨rfl, rfl⟩))
          go_cut [] from 57 to 64 (fun wx => At wx p k0 k1 { m with tb := t } ∧ Kept p.own w3 wx)
          case first =>
            have c5 := A3.out.c5
            have f5 := A3.out.fz 5
            by_cases h254 : gt v q = 254
            · have hd2 : (((gt v q : Nat) : Int) == 254) = true := by rw [h254]; rfl
              have hp := HCZ.out h254
              have hw1 : (m.tb : Int) - 1 = ((m.tb - 1 : Nat) : Int) := by omega
              have ht : t = m.tb - 1 := by rw [HT'.out, if_pos h254]
              have HT2 := Lib.hid ht
              have HW1 := Lib.hid hw1
              clear h254 ht hw1
              rw [hd2]
              go_wp2
              go_meet
              rw [HW1.out]
              exact ⟨by rw [HT2.out]; exact A3.out.setT _, (Kept.refl _ _).setCell (p := ⟨p.b, 5, none⟩) (.inl (.inl rfl)) _⟩
            · have hd2 : (((gt v q : Nat) : Int) == 254) = false := by simp; omega
              have ht : t = m.tb := by rw [HT'.out, if_neg h254]
              have HT2 := Lib.hid ht
              clear h254 ht
              rw [hd2]
              go_wp2
              go_meet
              exact ⟨by rw [HT2.out]; exact A3.out, Kept.refl _ _⟩
          case rest =>
            obtain ⟨hA4, hK4⟩ := hcut
            have A4 := Lib.hid hA4
            have K4 := Lib.hid hK4
            have z2 := hA4.c2
            have z3 := hA4.c3
            have zw := hA4.wc (j := j) (by rw [← HG.out]; exact hjg)
            have fw := hA4.wf j
            dsimp only at z2 z3 zw
            rw [← HG.out] at z2 z3
            rw [show Mp.w { m with tb := t } j = v from HVV.out.symm] at zw
            have HC4 : Hid (∀ k, CallsIn Fence.wide 3 Tryd.prog 77 #[.int .u64 (v : Int), .int .i64 (q : Int), .int .u8 (b : Int)] (wc.drewN k) (fun e w' => e = .returned (.int .u64 (st v q b : Nat)) ∧ w' = wc.drewN k)) := fun k => HC3.out _
            clear hA4 hK4 c2 cw s0
            have hfn4 : Fence.wide.fn 77 := trivial
            have hn24 : 1 ≤ 4 := by omega
            go_upto_region 8 with fail
            refine (wpIn_wide (n := 4)).1 ?_
            refine region_tail_r 16 (by kernel_rfl) (by kernel_rfl) (by kernel_rfl) ?_
            simp only [List.take_succ_cons, List.take_zero, List.drop_succ_cons, List.drop_zero]
            repeat (gi_big_quiet_step ((gi_at_call 77; exact CallsIn.quiet_of_same (HC4.out _))))
            refine wpQuietIn_nil ?_
            intro _ hw'
            obtain ⟨nq, rfl⟩ := hw'
            have K5 : Hid (Kept p.own w3 ((wc.drewN nq).setCell ⟨p.bw, j, none⟩ (.int .u64 (st v q b : Nat)))) := Kept.setCell (w := wc.drewN nq) ⟨K4.out.os, K4.out.tape, K4.out.output, K4.out.size, K4.out.block⟩ (p := ⟨p.bw, j, none⟩) (.inl (.inr (.inl rfl))) _
            have A5 : Hid (At ((wc.drewN nq).setCell ⟨p.bw, j, none⟩ (.int .u64 (st v q b : Nat))) p k0 k1 { m with tb := t, ws := m.ws.set j (st v q b) }) := MA.setW (w := wc.drewN nq) (A4.out.blocks (fun j hj => rfl)) (show j < m.ws.length by rw [← HG.out]; exact hjg)
            gi_upto_region 9 with fail
            generalize (wc.drewN nq).setCell ⟨p.bw, j, none⟩ (.int .u64 (st v q b : Nat)) = X1 at *
            have z3 := A5.out.c3
            have f3 := A5.out.sf
            dsimp only at z3
            rw [List.length_set, ← HG.out] at z3
            obtain ⟨ii, hii⟩ : ∃ ii : Nat, ii = 8 * j + q := ⟨_, rfl⟩
            have hiq : ii < 8 * g := by omega
            have hiq2 : (ii : Int) < 8 * (g : Int) := by omega
            have hw1 : IntKind.i64.wrap (8 * (j : Int)) = 8 * (j : Int) := IntWalk.i64_in _ (by omega)
            have hw2 : IntKind.i64.wrap (8 * (j : Int) + (q : Int)) = (ii : Int) := by rw [IntWalk.i64_in _ (by omega)]; omega
            have f30 := f3 (ii * 2)
            have f31 := f3 (ii * 2 + 1)
            have hw3 : 8 * (j : Int) + (q : Int) = (ii : Int) := by omega
            have HII := Lib.hid hii
            have sk := A5.out.sk (i := ii) (by show ii < 8 * (m.ws.set j (st v q b)).length; rw [List.length_set, ← HG.out]; exact hiq)
            have sv := A5.out.sv (i := ii) (by show ii < 8 * (m.ws.set j (st v q b)).length; rw [List.length_set, ← HG.out]; exact hiq)
            clear f3 hii
            have A6 : Hid (At ((X1.setCell ⟨p.bs, ii * 2, none⟩ (.string key)).setCell ⟨p.bs, ii * 2 + 1, none⟩ (.string u)) p k0 k1 { m with tb := t, ws := m.ws.set j (st v q b), ss := m.ss.set ii (key, u) }) :=
              MA.setS (w := X1) A5.out (by show ii < 8 * (m.ws.set j (st v q b)).length; rw [List.length_set, ← HG.out]; exact hiq) (by show m.ss.length = 8 * (m.ws.set j (st v q b)).length; rw [List.length_set]; exact HI.out.sl) (key, u)
            have K6 : Hid (Kept p.own w3 ((X1.setCell ⟨p.bs, ii * 2, none⟩ (.string key)).setCell ⟨p.bs, ii * 2 + 1, none⟩ (.string u))) :=
              (K5.out.setCell (p := ⟨p.bs, ii * 2, none⟩) (.inl (.inr (.inr rfl))) _).setCell (p := ⟨p.bs, ii * 2 + 1, none⟩) (.inl (.inr (.inr rfl))) _
            have hmx := HI.out.mx
            have hnx : (m.n : Int) + 1 = ((m.n + 1 : Nat) : Int) := by omega
            have HNX := Lib.hid hnx
            clear hnx
            go_upto_region 10 with fail
            generalize (X1.setCell ⟨p.bs, ii * 2, none⟩ (.string key)).setCell ⟨p.bs, ii * 2 + 1, none⟩ (.string u) = X2 at *
            have z4 := A6.out.c4
            have f4 := A6.out.fz 4
            dsimp only at z4
            have K7 := Lib.hid (K6.out.setCell (p := ⟨p.b, 4, none⟩) (.inl (.inl rfl)) (.int .i64 ((m.n + 1 : Nat) : Int)))
            have A7 := Lib.hid (A6.out.setN (m.n + 1))
            have HR : Hid (layL m b (key, u) (grps a g) = { m with tb := t, ws := m.ws.set j (st v q b), ss := m.ss.set ii (key, u), n := m.n + 1 }) := by
              show _ = _
              rw [← HFK.out, HDR.out, layL, HQ0.out]
              simp only [putAt]
              rw [← HVV.out, ← HT'.out, HII.out]
            clear z2 z3 zw fw f30 f31 sk sv hw1 hw2 hw3
            go_wp2
            rw [HNX.out]
            refine bodyPost_ret (results_none rfl _ _ _) rfl ⟨rfl, ?_, (Kept.of B3.out (Nat.le_refl _)).trans K7.out⟩
            rw [HF.out, ← HG.out, HR.out]
            exact A7.out
      · obtain rfl : k = g := by omega
        have hd : decide ((k : Int) < (k : Int)) = false := decide_eq_false (by omega)
        have HN : Hid (layL m b (key, u) (grps a k) = m) := by
          show _ = _
          rw [← HFK.out, List.drop_eq_nil_of_le (by rw [grps_len]; exact Nat.le_refl _)]; rfl
        go_wp2
        refine bodyPost_end (v := .tuple #[]) (by simp [results, Tryd.results75, go_sem]) rfl ⟨rfl, ?_, Kept.of B3.out (Nat.le_refl _)⟩
        rw [HF.out, ← HG.out, HN.out]
        exact A3.out
end Go.Proofs.YtcooapflofiolaaDoor.RM

/- The document's map: rehash. -/
namespace Go.Proofs.YtcooapflofiolaaDoor
section
variable {V : Type} [Inhabited V]
theorem accF_pre (m : Mp V) {a b : Nat} (h : a ≤ b) : accF m a <+: accF m b := by
  obtain ⟨d, rfl⟩ := Nat.exists_eq_add_of_le h
  induction d with
  | zero => exact List.prefix_refl _
  | succ d ih =>
    refine (ih (by omega)).trans ?_
    rw [← Nat.add_assoc, accF_succ]
    exact List.prefix_append _ _
theorem accF_next (m : Mp V) {j : Nat} (hj : j < 8 * m.ws.length) (hc : m.c j < 128) : (accF m j).length < (fullL m).length ∧ (fullL m).getD (accF m j).length default = m.s j ∧ (accF m (j + 1)).length = (accF m j).length + 1 := by
  have e : accF m (j + 1) = accF m j ++ [m.s j] := by rw [accF_succ, if_pos hc]
  have hp := accF_pre m (a := j + 1) (b := 8 * m.ws.length) (by omega)
  rw [accF_full, e] at hp
  obtain ⟨r, hr⟩ := hp
  refine ⟨by rw [← hr]; simp, ?_, by rw [e]; simp⟩
  rw [← hr, List.getD_eq_getElem?_getD, List.getElem?_append_left (by simp), List.getElem?_append_right (Nat.le_refl _)]
  simp
end
end Go.Proofs.YtcooapflofiolaaDoor
namespace Go.Proofs.YtcooapflofiolaaDoor.RM
open Go Go.RowKit Go.Shelf
set_option linter.unusedVariables false
set_option linter.unusedSimpArgs false
set_option maxRecDepth 100000
set_option maxHeartbeats 4000000
theorem rehash_any (p : Pl) (k0 k1 : BitVec 64) (m : Mp ByteArray) (w : World) (h : At w p k0 k1 m) (I : MInv (hashN k0 k1) m) (hks : MKeys m) (hf : 7 * m.ws.length ≤ m.n + m.tb) (hn : m.n < 2000) :
    Calls Tryd.prog 74 #[.pointer (some ⟨p.b, 0, none⟩)] w fun e w' => e = .returned (.tuple #[]) ∧ (∃ q : Pl, q.b = p.b ∧ At w' q k0 k1 (rehash (hashN k0 k1) m) ∧ (∀ j, q.own j → j = p.b ∨ w.heap.size ≤ j)) ∧ Kept (· = p.b) w w' := by
  have HA := Lib.hid h
  have HI := Lib.hid I
  have HKS := Lib.hid hks
  have HF := Lib.hid hf
  have hl := I.len
  obtain ⟨hg1, hg2, hg3⟩ := reG_good I hf hn
  have hgb := goodB_bounds hg1
  have htb : m.tb ≤ 7168 := by have := I.ld; omega
  obtain ⟨G, hG⟩ : ∃ G, G = reG m := ⟨_, rfl⟩
  rw [← hG] at hgb
  have HG := Lib.hid hG
  obtain ⟨g, hgg⟩ : ∃ g, g = m.ws.length := ⟨_, rfl⟩
  have c0 := h.c0
  have c1 := h.c1
  have c2 := h.c2
  have c3 := h.c3
  have c4 := h.c4
  have c5 := h.c5
  rw [← hgg] at hl c2 c3
  have HGG := Lib.hid hgg
  have HMN : Hid (∀ W, Calls Tryd.prog 72 #[.int .u64 (Sip.U k0), .int .u64 (Sip.U k1), .int .i64 (G : Int)] W fun e w' => ∃ p : Pl, e = .returned (.pointer (some ⟨p.b, 0, none⟩)) ∧ At w' p k0 k1 (empty G) ∧ (∀ j, p.own j → W.heap.size ≤ j) ∧ Below W.heap.size W w') := fun W => made_any k0 k1 G (by omega) (by omega) W
  have hpb := h.lt (.inl rfl)
  have HFL := Lib.hid (full_len I)
  have SK : Hid (∀ W, Below w.heap.size w W → W.cell? ⟨p.b, 0, none⟩ = some (.int .u64 (Sip.U k0)) ∧ W.cell? ⟨p.b, 1, none⟩ = some (.int .u64 (Sip.U k1))) := by
    show ∀ W, _
    intro W hW
    exact ⟨low_cell hW (Nat.le_refl _) h.c0, low_cell hW (Nat.le_refl _) h.c1⟩
  clear h I hks hf hG hgg hg1 hg2 hg3
  go_enter Tryd.func74, Tryd.ntmps74
  go_upto_region 1 with fail
  obtain ⟨c, hc⟩ : ∃ c, c = decide (m.tb = 0 ∨ 7 * g < 2 * m.n) := ⟨_, rfl⟩
  have hG2 : (if c then (g : Int) * 2 else (g : Int)) = (G : Int) := by
    have := HG.out
    unfold reG at this
    rw [← HGG.out] at this
    rw [this, hc]
    by_cases h : m.tb = 0 ∨ 7 * g < 2 * m.n
    · simp [h]
    · simp [h]
  have HG2 := Lib.hid hG2
  have HC := Lib.hid hc
  clear hc hG2
  go_cut [25] (fun cv wx => cv = .bool c ∧ wx = w)
  case first =>
    by_cases h1 : m.tb = 0
    · have d1 : ((m.tb : Int) == 0) = true := by simpa using h1
      have hc : c = true := by rw [HC.out]; simp [h1]
      have HC2 := Lib.hid hc
      clear h1 hc
      go_wp2
      go_meet
      exact ⟨by rw [HC2.out], rfl⟩
    · have d1 : ((m.tb : Int) == 0) = false := by simpa using h1
      have hc : c = decide (7 * (g : Int) < 2 * (m.n : Int)) := by
        rw [HC.out]
        by_cases h : 7 * g < 2 * m.n
        · rw [decide_eq_true (.inr h), decide_eq_true (by omega)]
        · rw [decide_eq_false (by rintro (h' | h'); exact h1 h'; exact h h'), decide_eq_false (by omega)]
      have HC2 := Lib.hid hc
      clear h1 hc
      go_wp2
      go_meet
      exact ⟨by rw [HC2.out], rfl⟩
  case rest =>
    obtain ⟨rfl, hww⟩ := hcut
    subst hww
    obtain ⟨w0, hw0⟩ : ∃ w0, w0 = wc := ⟨_, rfl⟩
    subst hw0
    go_upto_if 25 with fail
    go_cut [2] (fun gv wx => gv = .int .i64 (G : Int) ∧ wx = w0)
    case first =>
      cases c
      · have hG3 : (g : Int) = (G : Int) := HG2.out
        have HG3 := Lib.hid hG3
        clear hG3
        go_wp2
        go_meet
        exact ⟨by rw [HG3.out], rfl⟩
      · have hG3 : (g : Int) * 2 = (G : Int) := HG2.out
        have HG3 := Lib.hid hG3
        clear hG3
        go_wp2
        go_meet
        exact ⟨by rw [HG3.out], rfl⟩
    case rest =>
      obtain ⟨rfl, hww⟩ := hcut
      subst hww
      obtain ⟨w0, hw0⟩ : ∃ w0, w0 = wc := ⟨_, rfl⟩
      subst hw0
      go_upto_region 3 with fail
      go_cut [3] (fun xv wx => ∃ q : Pl, xv = .pointer (some ⟨q.b, 0, none⟩) ∧ At wx q k0 k1 (empty G) ∧ (∀ j, q.own j → w0.heap.size ≤ j) ∧ Below w0.heap.size w0 wx)
      case first =>
        have Lx : Hid (Below w0.heap.size w0 w0.drew) := (Below.refl _ _).drew
        go_region_held3 (fun W => W.cell? ⟨p.b, 0, none⟩ = some (.int .u64 (Sip.U k0)) ∧ W.cell? ⟨p.b, 1, none⟩ = some (.int .u64 (Sip.U k1)))
          (first | (refine SK.out _ ?_; repeat (first | exact Below.refl _ _ | exact HBX.out | refine Below.drew ?_)))
          (first
            | (go_at_call 72; refine (HMN.out _).mono ?_; rintro e w1 ⟨q, rfl, hq, hqo, hb1⟩; have HBX : Hid (Below w0.heap.size w0 w1) := (by first | exact hb1 | exact Lx.out.trans hb1); have HQ1 := Lib.hid hq; have HQO1 : Hid (∀ j, q.own j → w0.heap.size ≤ j) := hqo; clear hq hqo hb1))
        all_goals (go_wp2_with fail; go_meet; exact ⟨q, rfl, HQ1.out, HQO1.out, HBX.out⟩)
      case rest =>
        obtain ⟨q, rfl, hq, hqo, hb1⟩ := hcut
        have HQ := Lib.hid hq
        have HQO := Lib.hid hqo
        have HB1 := Lib.hid hb1
        have A1 := Lib.hid (HA.out.below (Nat.le_refl _) hb1)
        have HQ2 : Hid (At wc q k0 k1 (empty (reG m))) := by show At _ _ _ _ _; rw [← HG.out]; exact hq
        have HPQ : Hid (∀ j, p.own j → ¬ q.own j) := fun j h1 h2 => by have := HA.out.lt h1; have := hqo j h2; omega
        have c3' := A1.out.c3
        rw [← HGG.out] at c3'
        clear hq hqo hb1 c0 c1 c2 c3 c4 c5
        go_wp2
        go_loopw [43] (fun i wr => ∃ k : Nat, k ≤ 8 * g ∧ i = .int .i64 k ∧ At wr q k0 k1 (partM (hashN k0 k1) m (accF m k).length) ∧ Kept q.own wc wr) (fun i _ => 8 * g - (intOf i).toNat)
        case atStart => exact ⟨0, Nat.zero_le _, rfl, HQ2.out, Kept.refl _ _⟩
        case round =>
          obtain ⟨k, hk, rfl, hA, hK⟩ := hrel
          have HAr := Lib.hid hA
          have HKr := Lib.hid hK
          have AP : Hid (At wr p k0 k1 m) := A1.out.kept hK HPQ.out
          clear hA hK c3'
          by_cases hlt : k < 8 * g
          · have hd : decide ((k : Int) < 8 * (g : Int)) = true := decide_eq_true (by omega)
            have hkn : (k : Int) < 8 * (g : Int) := by omega
            have hlt8 : k < 8 * m.ws.length := by rw [← HGG.out]; exact hlt
            have sk := AP.out.sk (i := k) hlt8
            have sv := AP.out.sv (i := k) hlt8
            obtain ⟨x, hx⟩ : ∃ x, x = m.s k := ⟨_, rfl⟩
            rw [← hx] at sk sv
            have HX := Lib.hid hx
            obtain ⟨wA, hwA⟩ : ∃ wA, wA = wr.alloc (.cells #[.string x.1, .string x.2] 113) := ⟨_, rfl⟩
            have LA : Hid (Below wr.heap.size wr wA) := by rw [hwA]; exact (Below.refl _ wr).alloc (Nat.le_refl _) _
            have y0 : wA.cell? ⟨wr.heap.size, 0, none⟩ = some (.string x.1) := by rw [hwA]; simp
            have y1 : wA.cell? ⟨wr.heap.size, 1, none⟩ = some (.string x.2) := by rw [hwA]; simp
            have AQA := Lib.hid (HAr.out.below (Nat.le_refl _) LA.out)
            have APA := Lib.hid (AP.out.below (Nat.le_refl _) LA.out)
            have KA : Hid (Kept q.own wc wA) := by rw [hwA]; exact HKr.out.alloc _
            have c2 := APA.out.c2
            rw [← HGG.out] at c2
            have HCk : Hid (m.c k = gt (m.w (k / 8)) (k % 8)) := rfl
            have hq2 : (k : Int).tdiv 8 = ((k / 8 : Nat) : Int) := by rw [Int.tdiv_eq_ediv_of_nonneg (by omega)]; omega
            have hq3 : (k : Int) / 8 = ((k / 8 : Nat) : Int) := by omega
            obtain ⟨e, he⟩ : ∃ e, e = k / 8 := ⟨_, rfl⟩
            rw [← he] at HCk hq2 hq3
            have hjg : e < g := by omega
            have hjn : (e : Int) < (g : Int) := by omega
            have wc' := APA.out.wc (j := e) (by rw [← HGG.out]; exact hjg)
            have hwl := HI.out.wl e
            have HGT := Lib.hid (fun W => refget_any (m.w e) (k : Int) hwl W)
            have hix : ix (k : Int) = k % 8 := by unfold ix; omega
            rw [hix] at HGT
            obtain ⟨y, hy⟩ : ∃ y, y = gt (m.w e) (k % 8) := ⟨_, rfl⟩
            rw [← hy] at HGT HCk
            have HWA := Lib.hid hwA
            clear hx hwA he hix hy
            go_upto_region 7 with fail
            rw [← HWA.out]
            clear sk sv
            by_cases hyl : y < 128
            · have hd2 : decide ((y : Int) < 128) = true := decide_eq_true (by omega)
              have hck : m.c k < 128 := by rw [HCk.out]; exact hyl
              obtain ⟨n1, n2, n3⟩ := accF_next m hlt8 hck
              have hkm : (accF m k).length < m.n := by rw [← HFL.out]; exact n1
              have hxs : x.1.size ≤ maxLen := by
                have := HKS.out.full n1
                rw [n2, ← HX.out] at this
                exact this
              have HLY := Lib.hid (lay_any q k0 k1 (partM (hashN k0 k1) m (accF m k).length) x.1 x.2 hxs wA AQA.out (part_inv HI.out HF.out hn _ (Nat.le_of_lt hkm)))
              have HS : Hid (partM (hashN k0 k1) m (accF m (k + 1)).length = lay (hashN k0 k1) (partM (hashN k0 k1) m (accF m k).length) (x.1, x.2)) := by
                show _ = _
                rw [n3, part_succ HI.out hkm, n2, HX.out]
              clear n1 n2 n3 hkm hxs hck hyl
              go_wp2_with fail
              refine (HGT.out _).mono ?_
              rintro e' w5 ⟨rfl, rfl⟩
              go_wp2_with fail
              refine HLY.out.mono ?_
              rintro e' w5 ⟨rfl, hA5, hK5⟩
              have X1 : Hid (At w5 q k0 k1 (partM (hashN k0 k1) m (accF m (k + 1)).length)) := by show At _ _ _ _ _; rw [HS.out]; exact hA5
              have X2 : Hid (Kept q.own wc w5) := KA.out.trans hK5
              clear hA5 hK5
              go_wp2
              go_roundw
              case rel => exact ⟨k + 1, by omega, by go_num, X1.out, X2.out⟩
              case measure => simp [intOf]; omega
            · have hd2 : decide ((y : Int) < 128) = false := decide_eq_false (by omega)
              have HS : Hid (accF m (k + 1) = accF m k) := by show _ = _; rw [accF_succ, if_neg (by rw [HCk.out]; exact hyl), List.append_nil]
              clear hyl
              go_wp2_with fail
              refine (HGT.out _).mono ?_
              rintro e' w5 ⟨rfl, rfl⟩
              go_wp2
              go_roundw
              case rel => exact ⟨k + 1, by omega, by go_num, by rw [HS.out]; exact AQA.out, KA.out⟩
              case measure => simp [intOf]; omega
          · obtain rfl : k = 8 * g := by omega
            have hd : decide (((8 * g : Nat) : Int) < 8 * (g : Int)) = false := decide_eq_false (by omega)
            have hd' : decide (8 * (g : Int) < 8 * (g : Int)) = false := decide_eq_false (by omega)
            have HPA : Hid (At wr q k0 k1 (rehash (hashN k0 k1) m)) := by
              show At _ _ _ _ _
              have := HAr.out
              rw [show (accF m (8 * g)).length = m.n by rw [HGG.out, accF_full, HFL.out], part_all HI.out] at this
              exact this
            have hbb : p.b ≠ q.b := fun e => HPQ.out p.b (.inl rfl) (.inl e)
            have HBBQ := Lib.hid hbb
            obtain ⟨M, hM⟩ : ∃ M, M = rehash (hashN k0 k1) m := ⟨_, rfl⟩
            rw [← hM] at HPA
            have HM := Lib.hid hM
            have q0 := HPA.out.c0
            have q1 := HPA.out.c1
            have q2 := HPA.out.c2
            have q3 := HPA.out.c3
            have q4 := HPA.out.c4
            have q5 := HPA.out.c5
            have p0 := AP.out.c0
            have p1 := AP.out.c1
            have p2 := AP.out.c2
            have p3 := AP.out.c3
            have p4 := AP.out.c4
            have p5 := AP.out.c5
            have f0 := AP.out.fz 0
            have f1 := AP.out.fz 1
            have f2 := AP.out.fz 2
            have f3 := AP.out.fz 3
            have f4 := AP.out.fz 4
            have f5 := AP.out.fz 5
            clear hM hbb
            go_wp2
            have hs6 := set6_same AP.out.hb (.int .u64 (Sip.U k0)) (.int .u64 (Sip.U k1)) (.slice (some ⟨q.bw, 0, none⟩) M.ws.length q.cw) (.slice (some ⟨q.bs, 0, none⟩) (8 * M.ws.length) q.cs) (.int .i64 M.n) (.int .i64 M.tb)
            have ho6 : ∀ k, k ≠ p.b → _ := fun k hk => set6_other (w := wr) hk (.int .u64 (Sip.U k0)) (.int .u64 (Sip.U k1)) (.slice (some ⟨q.bw, 0, none⟩) M.ws.length q.cw) (.slice (some ⟨q.bs, 0, none⟩) (8 * M.ws.length) q.cs) (.int .i64 M.n) (.int .i64 M.tb)
            have hnw : q.bw ≠ p.b := fun e => HPQ.out p.b (.inl rfl) (.inr (.inl e.symm))
            have hns : q.bs ≠ p.b := fun e => HPQ.out p.b (.inl rfl) (.inr (.inr e.symm))
            refine bodyPost_end (v := .tuple #[]) (by simp [results, Tryd.results74, go_sem]) rfl ⟨rfl, ⟨⟨p.b, q.bw, q.bs, q.cw, q.cs⟩, rfl, ?_, fun j hj => ?_⟩, ?_⟩
            · rw [← HM.out]
              obtain ⟨C, h1, h2⟩ := HPA.out.hw
              obtain ⟨D, h3, h4⟩ := HPA.out.hs
              exact ⟨hs6, ⟨C, (ho6 _ hnw).trans h1, h2⟩, ⟨D, (ho6 _ hns).trans h3, h4⟩, HPA.out.cw, HPA.out.cs, fun e => hnw e.symm, fun e => hns e.symm, HPA.out.n3⟩
            · rcases hj with h | h | h
              · exact .inl h
              · exact .inr (HQO.out j (.inr (.inl h)))
              · exact .inr (HQO.out j (.inr (.inr h)))
            · have hk2 : Kept (· = p.b) w0 wc := Kept.of HB1.out (Nat.le_refl _)
              have hk3 : Kept (· = p.b) w0 wr := hk2.join HKr.out (fun _ h => h) (fun i hi h => by have := HQO.out i h; omega)
              exact set6_kept hk3 rfl _ _ _ _ _ _
end Go.Proofs.YtcooapflofiolaaDoor.RM

/- The document's map: Delete. -/
namespace Go.Proofs.YtcooapflofiolaaDoor.RM
open Go Go.RowKit Go.Shelf
attribute [local go_sem] Oper.semAt_some
set_option linter.unusedVariables false
set_option linter.unusedSimpArgs false
set_option maxRecDepth 100000
set_option maxHeartbeats 4000000
/-- What becomes of the document's map: it lies where it lay, or in new blocks. -/
def Turned (w : World) (p : Pl) (k0 k1 : BitVec 64) (m' : Mp ByteArray) (w' : World) : Prop := ∃ q : Pl, q.b = p.b ∧ At w' q k0 k1 m' ∧ (∀ j, q.own j → p.own j ∨ w.heap.size ≤ j) ∧ Kept p.own w w'
theorem delete_any (p : Pl) (k0 k1 : BitVec 64) (m : Mp ByteArray) (key : ByteArray) (w : World) (h : At w p k0 k1 m) (I : MInv (hashN k0 k1) m) (hkey : key.size ≤ maxLen) :
    Calls Tryd.prog 26 #[.pointer (some ⟨p.b, 0, none⟩), .string key] w fun e w' => e = .returned (.bool (find (hashN k0 k1) m key).isSome) ∧ Turned w p k0 k1 (del (hashN k0 k1) m key) w' := by
  have HFi := Lib.hid (find_any p k0 k1 m key hkey w h I)
  have HA := Lib.hid h
  have HI := Lib.hid I
  have hl := I.len
  have hmx := I.mx
  have htb : m.tb ≤ 7168 := by have := I.ld; omega
  clear h I hkey
  cases hf : find (hashN k0 k1) m key with
  | none =>
    have HP : Hid (del (hashN k0 k1) m key = m) := by show _ = _; exact del_none hf
    rw [hf] at HFi
    clear hf
    go_enter Tryd.func26, Tryd.ntmps26
    go_wp2_with fail
    refine HFi.out.mono ?_
    rintro e w1 ⟨rfl, hb⟩
    have A1 := Lib.hid (HA.out.below (Nat.le_refl _) hb)
    have HB1 := Lib.hid hb
    clear hb
    rw [show toI none = -1 from rfl]
    go_wp2
    go_ret
    rw [HP.out]
    exact ⟨rfl, p, rfl, A1.out, fun j hj => .inl hj, Kept.of HB1.out (Nat.le_refl _)⟩
  | some i =>
    obtain ⟨hi, hfc, _⟩ := find_some HI.out hf
    have hpos : 0 < m.n := by
      have := cnt_set (p := fun i => decide (m.c i < 128)) (q := fun j => if j = i then false else decide (m.c j < 128)) hi (fun j hj hne => by simp [hne])
      rw [HI.out.cn]; simp [hfc] at this; omega
    have HP : Hid (del (hashN k0 k1) m key = delAt m i) := by show _ = _; unfold del; rw [hf]
    rw [hf] at HFi
    clear hf hfc
    obtain ⟨e, he⟩ : ∃ e : Nat, e = i / 8 := ⟨_, rfl⟩
    have heg : e < m.ws.length := by omega
    have hdiv : ((i : Int).tdiv 8) = (e : Int) := by rw [Int.tdiv_eq_ediv_of_nonneg (by omega)]; omega
    have hdiv2 : ((i : Int) / 8) = (e : Int) := by omega
    have hv := HI.out.wl e
    obtain ⟨v, hvv⟩ : ∃ v, v = m.w e := ⟨_, rfl⟩
    rw [← hvv] at hv
    have HVV := Lib.hid hvv
    have HV := Lib.hid hv
    have HE := Lib.hid he
    obtain ⟨c, hc⟩ : ∃ c : Nat, c = if empB m e then 128 else 254 := ⟨_, rfl⟩
    obtain ⟨t, ht⟩ : ∃ t : Nat, t = if empB m e then m.tb else m.tb + 1 := ⟨_, rfl⟩
    have hcl : c < 256 := by rw [hc]; split <;> omega
    have HCL := Lib.hid hcl
    have HCC := Lib.hid hc
    have HT := Lib.hid ht
    have HEM := Lib.hid (emp_mch (m := m) (e := e) hvv)
    have HM2 : Hid (∀ W, Calls Tryd.prog 35 #[.int .u64 (v : Int), .int .u8 128] W (fun e w' => e = .returned (.int .u8 (mch v 128 : Nat)) ∧ W = w')) := fun W => refmatch_any v 128 hv (by omega) W
    have HC3 : Hid (∀ W, CallsIn Fence.wide 3 Tryd.prog 77 #[.int .u64 (v : Int), .int .i64 (i : Int), .int .u8 (c : Int)] W (fun e w' => e = .returned (.int .u64 (st v (i % 8) c : Nat)) ∧ w' = W)) := fun W => callsIn_wide.2 ((refset_any v c (i : Int) HV.out HCL.out W).mono fun _ _ ⟨h1, h2⟩ => ⟨by rw [h1, show ix (i : Int) = i % 8 by unfold ix; omega], h2.symm⟩)
    clear hvv hv he hc ht hcl
    go_enter Tryd.func26, Tryd.ntmps26
    go_wp2_with fail
    refine HFi.out.mono ?_
    rintro e' w1 ⟨rfl, hb⟩
    have A1 := Lib.hid (HA.out.below (Nat.le_refl _) hb)
    have HB1 := Lib.hid hb
    have c2 := A1.out.c2
    have cw := A1.out.wc heg
    rw [← HVV.out] at cw
    clear hb
    rw [show toI (some i) = (i : Int) from rfl]
    have heg2 : (e : Int) < (m.ws.length : Int) := by omega
    go_upto_if 23 with (go_at_call 35; refine (HM2.out _).mono ?_; rintro e' w' ⟨rfl, rfl⟩)
    go_cut [7] from 23 to 30 (fun cv wx => cv = .int .u8 (c : Int) ∧ At wx p k0 k1 { m with tb := t } ∧ Kept p.own w1 wx)
    case first =>
      have c5 := A1.out.c5
      have f5 := A1.out.fz 5
      by_cases h0 : mch v 128 = 0
      · have hd : (((mch v 128 : Nat) : Int) != 0) = false := by simpa using h0
        have he : empB m e = false := by rw [HEM.out]; simp [h0]
        have hc : c = 254 := by rw [HCC.out, he]; rfl
        have ht : t = m.tb + 1 := by rw [HT.out, he]; rfl
        have hw : (m.tb : Int) + 1 = ((m.tb + 1 : Nat) : Int) := by omega
        have X1 := Lib.hid hc
        have X2 := Lib.hid ht
        have X3 := Lib.hid hw
        clear h0 he hc ht hw
        rw [hd]
        go_wp2
        go_meet
        rw [X3.out, X1.out, X2.out]
        exact ⟨rfl, A1.out.setT _, (Kept.refl _ _).setCell (p := ⟨p.b, 5, none⟩) (.inl (.inl rfl)) _⟩
      · have hd : (((mch v 128 : Nat) : Int) != 0) = true := by simpa using h0
        have he : empB m e = true := by rw [HEM.out]; simp [h0]
        have hc : c = 128 := by rw [HCC.out, he]; rfl
        have ht : t = m.tb := by rw [HT.out, he]; rfl
        have X1 := Lib.hid hc
        have X2 := Lib.hid ht
        clear h0 he hc ht
        rw [hd]
        go_wp2
        go_meet
        rw [X1.out, X2.out]
        exact ⟨rfl, A1.out, Kept.refl _ _⟩
    case rest =>
      obtain ⟨rfl, hA3, hK3⟩ := hcut
      have A3 := Lib.hid hA3
      have K3 := Lib.hid hK3
      have z2 := hA3.c2
      have z3 := hA3.c3
      have zw := hA3.wc (j := e) heg
      have fw := hA3.wf e
      dsimp only at z2 z3 zw
      rw [show Mp.w { m with tb := t } e = v from HVV.out.symm] at zw
      have HC4 : Hid (∀ k, CallsIn Fence.wide 3 Tryd.prog 77 #[.int .u64 (v : Int), .int .i64 (i : Int), .int .u8 (c : Int)] (wc.drewN k) (fun e w' => e = .returned (.int .u64 (st v (i % 8) c : Nat)) ∧ w' = wc.drewN k)) := fun k => HC3.out _
      clear hA3 hK3 c2 cw
      have hfn4 : Fence.wide.fn 77 := trivial
      have hn2 : 1 ≤ 4 := by omega
      go_upto_region 9 with fail
      refine (wpIn_wide (n := 4)).1 ?_
      refine region_tail_r 16 (by kernel_rfl) (by kernel_rfl) (by kernel_rfl) ?_
      simp only [List.take_succ_cons, List.take_zero, List.drop_succ_cons, List.drop_zero]
      repeat (gi_big_quiet_step ((gi_at_call 77; exact CallsIn.quiet_of_same (HC4.out _))))
      refine wpQuietIn_nil ?_
      intro _ hw'
      obtain ⟨nq, rfl⟩ := hw'
      have K4 : Hid (Kept p.own w1 ((wc.drewN nq).setCell ⟨p.bw, e, none⟩ (.int .u64 (st v (i % 8) c : Nat)))) := Kept.setCell (w := wc.drewN nq) ⟨K3.out.os, K3.out.tape, K3.out.output, K3.out.size, K3.out.block⟩ (p := ⟨p.bw, e, none⟩) (.inl (.inr (.inl rfl))) _
      have A4 : Hid (At ((wc.drewN nq).setCell ⟨p.bw, e, none⟩ (.int .u64 (st v (i % 8) c : Nat))) p k0 k1 { m with tb := t, ws := m.ws.set e (st v (i % 8) c) }) := MA.setW (w := wc.drewN nq) (A3.out.blocks (fun j hj => rfl)) heg
      gi_upto_region 10 with fail
      generalize (wc.drewN nq).setCell ⟨p.bw, e, none⟩ (.int .u64 (st v (i % 8) c : Nat)) = X1 at *
      have y3 := A4.out.c3
      have f30 := A4.out.sf (i * 2)
      have f31 := A4.out.sf (i * 2 + 1)
      have hil : i < 8 * (m.ws.set e (st v (i % 8) c)).length := by rw [List.length_set]; exact hi
      have sk := A4.out.sk (i := i) hil
      have sv := A4.out.sv (i := i) hil
      dsimp only at y3
      rw [List.length_set] at y3
      have hi' : (i : Int) < 8 * (m.ws.length : Int) := by omega
      have A5 : Hid (At ((X1.setCell ⟨p.bs, i * 2, none⟩ (.string ⟨#[]⟩)).setCell ⟨p.bs, i * 2 + 1, none⟩ (.string ⟨#[]⟩)) p k0 k1 { m with tb := t, ws := m.ws.set e (st v (i % 8) c), ss := m.ss.set i default }) :=
        MA.setS (w := X1) A4.out hil (by show m.ss.length = 8 * (m.ws.set e (st v (i % 8) c)).length; rw [List.length_set]; exact HI.out.sl) default
      have K5 : Hid (Kept p.own w1 ((X1.setCell ⟨p.bs, i * 2, none⟩ (.string ⟨#[]⟩)).setCell ⟨p.bs, i * 2 + 1, none⟩ (.string ⟨#[]⟩))) :=
        (K4.out.setCell (p := ⟨p.bs, i * 2, none⟩) (.inl (.inr (.inr rfl))) _).setCell (p := ⟨p.bs, i * 2 + 1, none⟩) (.inl (.inr (.inr rfl))) _
      go_upto_region 11 with fail
      generalize (X1.setCell ⟨p.bs, i * 2, none⟩ (.string ⟨#[]⟩)).setCell ⟨p.bs, i * 2 + 1, none⟩ (.string ⟨#[]⟩) = X2 at *
      have z4 := A5.out.c4
      have f4 := A5.out.fz 4
      dsimp only at z4
      have hnx : (m.n : Int) - 1 = ((m.n - 1 : Nat) : Int) := by omega
      have HNX := Lib.hid hnx
      have K6 := Lib.hid (K5.out.setCell (p := ⟨p.b, 4, none⟩) (.inl (.inl rfl)) (.int .i64 ((m.n - 1 : Nat) : Int)))
      have A6 := Lib.hid (A5.out.setN (m.n - 1))
      have hfin : delAt m i = { m with tb := t, ws := m.ws.set e (st v (i % 8) c), ss := m.ss.set i default, n := m.n - 1 } := by
        unfold delAt
        rw [← HE.out, ← HVV.out, ← HCC.out, ← HT.out]
      have HFN := Lib.hid hfin
      clear hnx hfin y3 f30 f31 sk sv z2 z3 zw fw
      go_wp2
      rw [HNX.out]
      go_ret
      rw [HP.out, HFN.out]
      exact ⟨rfl, p, rfl, A6.out, fun j hj => .inl hj, (Kept.of HB1.out (Nat.le_refl _)).trans K6.out⟩
end Go.Proofs.YtcooapflofiolaaDoor.RM

/- The document's map: Keys. -/
namespace Go.Proofs.YtcooapflofiolaaDoor.RM
open Go Go.RowKit Go.Shelf
set_option linter.unusedVariables false
set_option linter.unusedSimpArgs false
set_option maxRecDepth 100000
set_option maxHeartbeats 4000000
theorem keys_any (p : Pl) (k0 k1 : BitVec 64) (m : Mp ByteArray) (w : World) (h : At w p k0 k1 m) (I : MInv (hashN k0 k1) m) :
    Calls Tryd.prog 76 #[.pointer (some ⟨p.b, 0, none⟩)] w fun e w' => ∃ v, e = .returned v ∧ w'.ownsRow w.heap.size 9 1 v m.n (textsV (MS.keysL m)) ∧ Below w.heap.size w w' := by
  have HA := Lib.hid h
  have HI := Lib.hid I
  have c3 := h.c3
  have HFL := Lib.hid (full_len I)
  obtain ⟨i0, hi, hz0, hz1, hz2⟩ := info_parts infoT
  obtain ⟨g, hg⟩ : ∃ g, g = m.ws.length := ⟨_, rfl⟩
  have hgl := I.len
  rw [← hg] at c3 hgl
  have HG := Lib.hid hg
  clear h I hg
  go_enter Tryd.func76, Tryd.ntmps76
  go_wp2
  go_loopw [3, 10] (fun v i wr => ∃ k : Nat, k ≤ 8 * g ∧ i = .int .i64 k ∧ wr.ownsRow w.heap.size 9 1 v (accF m k).length (textsV ((accF m k).map (·.1))) ∧ Below w.heap.size w wr) (fun _ i _ => 8 * g - (intOf i).toNat)
  case atStart => exact ⟨0, by omega, rfl, World.ownsRow_nil _ _ _ _, Below.refl _ _⟩
  case round =>
    obtain ⟨k, hk, rfl, hrow, hB⟩ := hrel
    have HR := Lib.hid hrow
    have HB := Lib.hid hB
    clear hrow hB
    by_cases hlt : k < 8 * g
    · have hd : decide ((k : Int) < 8 * (g : Int)) = true := decide_eq_true (by omega)
      have hkn : (k : Int) < 8 * (g : Int) := by omega
      have A1 := Lib.hid (HA.out.below (Nat.le_refl _) HB.out)
      have c2 := A1.out.c2
      have c3' := A1.out.c3
      rw [← HG.out] at c2 c3'
      have HC : Hid (m.c k = gt (m.w (k / 8)) (k % 8)) := rfl
      have hq2 : (k : Int).tdiv 8 = ((k / 8 : Nat) : Int) := by rw [Int.tdiv_eq_ediv_of_nonneg (by omega)]; omega
      obtain ⟨e, he⟩ : ∃ e, e = k / 8 := ⟨_, rfl⟩
      rw [← he] at HC hq2
      have hj : e < g := by omega
      have hjn : (e : Int) < (g : Int) := by omega
      have wc' := A1.out.wc (j := e) (by rw [← HG.out]; exact hj)
      have sk := A1.out.sk (i := k) (by rw [← HG.out]; exact hlt)
      have hwl := HI.out.wl e
      have HGT := Lib.hid (fun W => refget_any (m.w e) (k : Int) hwl W)
      have hix : ix (k : Int) = k % 8 := by unfold ix; omega
      rw [hix] at HGT
      have HS := Lib.hid (accF_succ m k)
      have hal := accF_len m k
      obtain ⟨x, hx⟩ : ∃ x, x = gt (m.w e) (k % 8) := ⟨_, rfl⟩
      rw [← hx] at HGT HC
      clear hx hix he
      by_cases hx : x < 128
      · have hd2 : decide ((x : Int) < 128) = true := decide_eq_true (by omega)
        rw [HC.out, if_pos hx] at HS
        obtain ⟨key, hkey⟩ : ∃ key, key = (m.s k).1 := ⟨_, rfl⟩
        rw [← hkey] at sk
        have HKY := Lib.hid hkey
        clear hkey hx
        have LX : Hid (Below wr.heap.size wr (wr.alloc (.cells #[.string key] 9))) := (Below.refl _ wr).alloc (Nat.le_refl _) _
        have hnew : ∀ j u, [Value.string key][j]? = some u → (wr.alloc (.cells #[.string key] 9)).cell? (Addr.add ⟨wr.heap.size, 0, none⟩ j) = some u := fun j u h => by
          match j with
          | 0 => simp at h; subst h; rw [Addr.add_lit]; simp
          | j + 1 => simp at h
        obtain ⟨v', w', hr, h2, h3, _, h5⟩ := run_append_own_at (P := Tryd.prog) (wr.alloc (.cells #[.string key] 9)) w.heap.size 30 30 9 i0 _ 1 16 Tryd.underlying30 hi hz0 hz1 hz2 rfl (by decide) u3 (accF m k).length _ (own_below HR.out (Nat.le_refl _) LX.out) ⟨wr.heap.size, 0, none⟩ 1 1 [.string key] rfl hnew (by simp [Value.oneCell']) (by simp only [maxLen]; omega) (by omega) (by have := HB.out.size; have := LX.out.size; omega)
        have HAP := Lib.hid hr
        have HO := Lib.hid h2
        have HB2 : Hid (Below w.heap.size w w') := (HB.out.trans (LX.out.mono HB.out.size)).grown h3 (by have := HB.out.size; have := LX.out.size; omega) (fun r er => (HR.out.lt r er).1)
        clear hr h2 h3 h5 hnew
        go_wp2_with fail
        refine (HGT.out _).mono ?_
        rintro e' w5 ⟨rfl, rfl⟩
        go_wp2_with (at_builtin; refine wpList_runT 30 rfl _ _ rfl _ _ rfl rfl _ _ HAP.out ?_)
        go_roundw
        case rel =>
          refine ⟨k + 1, by omega, by go_num, ?_, HB2.out⟩
          rw [HS.out, List.length_append, List.map_append]
          have := HO.out
          rw [HKY.out] at this
          simpa [textsV] using this
        case measure => simp [intOf]; omega
      · have hd2 : decide ((x : Int) < 128) = false := decide_eq_false (by omega)
        rw [HC.out, if_neg hx, List.append_nil] at HS
        clear hx
        go_wp2_with fail
        refine (HGT.out _).mono ?_
        rintro e' w5 ⟨rfl, rfl⟩
        go_wp2
        go_roundw
        case rel => exact ⟨k + 1, by omega, by go_num, by rw [HS.out]; exact HR.out, HB.out⟩
        case measure => simp [intOf]; omega
    · obtain rfl : k = 8 * g := by omega
      have hd : decide (((8 * g : Nat) : Int) < 8 * (g : Int)) = false := decide_eq_false (by omega)
      have hd' : decide (8 * (g : Int) < 8 * (g : Int)) = false := decide_eq_false (by omega)
      go_wp2
      refine bodyPost_ret (v := u3) ?_ rfl ⟨_, rfl, ?_, HB.out⟩
      · simp [results, Tryd.results76, go_sem]
      · have e : accF m (8 * g) = fullL m := by rw [HG.out]; rfl
        have := HR.out
        rw [e, HFL.out] at this
        exact this
end Go.Proofs.YtcooapflofiolaaDoor.RM

/- The document's map: Put; and a map that lives. -/
namespace Go.Proofs.YtcooapflofiolaaDoor.RM
open Go Go.RowKit Go.Shelf
set_option linter.unusedVariables false
set_option linter.unusedSimpArgs false
set_option maxRecDepth 100000
set_option maxHeartbeats 4000000
theorem put_any (p : Pl) (k0 k1 : BitVec 64) (m : Mp ByteArray) (key u : ByteArray) (w : World) (h : At w p k0 k1 m) (I : MInv (hashN k0 k1) m) (hks : MKeys m) (hkey : key.size ≤ maxLen) :
    Calls Tryd.prog 23 #[.pointer (some ⟨p.b, 0, none⟩), .string key, .string u] w fun e w' => e = .returned (.tuple #[.bool (putB (hashN k0 k1) m key), .int .i64 (putE (hashN k0 k1) m key)]) ∧ Turned w p k0 k1 (put (hashN k0 k1) m key u) w' := by
  have HFi := Lib.hid (find_any p k0 k1 m key hkey w h I)
  have HA := Lib.hid h
  have HI := Lib.hid I
  have HKS := Lib.hid hks
  have HKey := Lib.hid hkey
  have hl := I.len
  have hmx := I.mx
  clear h I hks hkey
  cases hf : find (hashN k0 k1) m key with
  | some i =>
    obtain ⟨hi, _, hk⟩ := find_some HI.out hf
    have HP : Hid (put (hashN k0 k1) m key u = { m with ss := m.ss.set i ((m.s i).1, u) }) := by show _ = _; unfold put; rw [hf, hk]
    have HB : Hid (putB (hashN k0 k1) m key = true ∧ putE (hashN k0 k1) m key = 0) := by constructor <;> simp [putB, putE, hf]
    rw [hf] at HFi
    clear hf hk
    go_enter Tryd.func23, Tryd.ntmps23
    go_wp2_with fail
    refine HFi.out.mono ?_
    rintro e w1 ⟨rfl, hb⟩
    have A1 := Lib.hid (HA.out.below (Nat.le_refl _) hb)
    have HB1 := Lib.hid hb
    have c3 := A1.out.c3
    have sv := A1.out.sv hi
    have fv := A1.out.sf (i * 2 + 1)
    have hi' : (i : Int) < 8 * (m.ws.length : Int) := by omega
    clear hb
    rw [show toI (some i) = (i : Int) from rfl]
    go_wp2
    go_ret2
    rw [HB.out.1, HB.out.2, HP.out]
    exact ⟨rfl, p, rfl, A1.out.setV hi HI.out.sl u, fun j hj => .inl hj, (Kept.of HB1.out (Nat.le_refl _)).setCell (p := ⟨p.bs, i * 2 + 1, none⟩) (.inl (.inr (.inr rfl))) _⟩
  | none =>
    have HNF := Lib.hid hf
    by_cases hn : 2000 ≤ m.n
    · have HP : Hid (put (hashN k0 k1) m key u = m) := by show _ = _; exact put_full hf hn
      have HB : Hid (putB (hashN k0 k1) m key = false ∧ putE (hashN k0 k1) m key = 7) := by constructor <;> simp [putB, putE, hf, hn]
      have hd : decide ((2000 : Int) ≤ (m.n : Int)) = true := decide_eq_true (by omega)
      rw [hf] at HFi
      clear hf
      go_enter Tryd.func23, Tryd.ntmps23
      go_wp2_with fail
      refine HFi.out.mono ?_
      rintro e w1 ⟨rfl, hb⟩
      have A1 := Lib.hid (HA.out.below (Nat.le_refl _) hb)
      have HB1 := Lib.hid hb
      have c4 := A1.out.c4
      clear hb
      rw [show toI none = -1 from rfl]
      go_wp2
      go_ret2
      rw [HB.out.1, HB.out.2, HP.out]
      exact ⟨rfl, p, rfl, A1.out, fun j hj => .inl hj, Kept.of HB1.out (Nat.le_refl _)⟩
    · have hn' : m.n < 2000 := by omega
      obtain ⟨r1, r2, r3, r4, r5, _⟩ := room_inv HI.out hn'
      have HP : Hid (put (hashN k0 k1) m key u = lay (hashN k0 k1) (room (hashN k0 k1) m) (key, u)) := (put_none HI.out hf hn').2.2.2.2.2
      have HB : Hid (putB (hashN k0 k1) m key = false ∧ putE (hashN k0 k1) m key = 0) := by constructor <;> simp [putB, putE, hf, hn]
      have hd : decide ((2000 : Int) ≤ (m.n : Int)) = false := decide_eq_false (by omega)
      have R1 := Lib.hid r1
      have hld := HI.out.ld
      rw [hf] at HFi
      clear hf r1 r2 r3 r4 r5 hn
      go_enter Tryd.func23, Tryd.ntmps23
      go_wp2_with fail
      refine HFi.out.mono ?_
      rintro e w1 ⟨rfl, hb⟩
      have A1 := Lib.hid (HA.out.below (Nat.le_refl _) hb)
      have HB1 := Lib.hid hb
      have c2 := A1.out.c2
      have c4 := A1.out.c4
      have c5 := A1.out.c5
      clear hb
      rw [show toI none = -1 from rfl]
      have hw1 : IntKind.i64.wrap ((m.n : Int) + (m.tb : Int)) = (m.n : Int) + (m.tb : Int) := IntWalk.i64_in _ (by omega)
      have hw2 : IntKind.i64.wrap (7 * (m.ws.length : Int)) = 7 * (m.ws.length : Int) := IntWalk.i64_in _ (by omega)
      by_cases hfull : 7 * m.ws.length ≤ m.n + m.tb
      · have hd2 : decide (7 * (m.ws.length : Int) ≤ (m.n : Int) + (m.tb : Int)) = true := decide_eq_true (by omega)
        have HRH := Lib.hid (fun W (hA : At W p k0 k1 m) => rehash_any p k0 k1 m W hA HI.out HKS.out hfull hn')
        have HRM : Hid (room (hashN k0 k1) m = rehash (hashN k0 k1) m) := by show _ = _; unfold room; rw [if_pos hfull]
        have HFull := Lib.hid hfull
        clear hfull
        go_upto_region 7 with fail
        go_quiet (fail)
        have A2 : Hid (At (w1.drewN nq) p k0 k1 m) := A1.out.blocks (fun j hj => rfl)
        have B2 : Hid (Below w1.heap.size w1 (w1.drewN nq)) := ⟨rfl, rfl, rfl, Nat.le_refl _, fun _ _ => rfl⟩
        generalize w1.drewN nq = w2 at *
        clear hw1 hw2 c2 c4 c5
        go_wp2_with fail
        refine (HRH.out w2 A2.out).mono ?_
        rintro e w3 ⟨rfl, ⟨q, hqb, hq, hqo⟩, hk3⟩
        have HQ := Lib.hid hq
        have HQO := Lib.hid hqo
        have HK3 := Lib.hid hk3
        have HL := Lib.hid (lay_any q k0 k1 (room (hashN k0 k1) m) key u HKey.out w3 (by rw [HRM.out]; exact hq) R1.out)
        rw [hqb] at HL
        have HQB := Lib.hid hqb
        clear hq hqo hk3 hqb
        go_wp2_with fail
        refine HL.out.mono ?_
        rintro e w4 ⟨rfl, hA4, hK4⟩
        have HA4 := Lib.hid hA4
        have HK4 := Lib.hid hK4
        clear hA4 hK4
        go_wp2
        go_ret2
        rw [HB.out.1, HB.out.2, HP.out]
        refine ⟨rfl, q, HQB.out, HA4.out, fun j hj => ?_, ?_⟩
        · rcases HQO.out j hj with h | h
          · exact .inl (.inl h)
          · exact .inr (Nat.le_trans (Nat.le_trans HB1.out.size B2.out.size) h)
        · have h12 : Kept p.own w w2 := Kept.of (HB1.out.trans (B2.out.mono HB1.out.size)) (Nat.le_refl _)
          have h13 : Kept p.own w w3 := h12.join HK3.out (fun _ h => h) (fun i _ h => .inl h)
          exact h13.join HK4.out (fun _ h => h) (fun i hi h => by
            rcases HQO.out i h with h | h
            · exact .inl h
            · have := Nat.le_trans HB1.out.size B2.out.size; omega)
      · have hd2 : decide (7 * (m.ws.length : Int) ≤ (m.n : Int) + (m.tb : Int)) = false := decide_eq_false (by omega)
        have HRM : Hid (room (hashN k0 k1) m = m) := by show _ = _; unfold room; rw [if_neg hfull]
        clear hfull
        go_upto_region 7 with fail
        go_quiet (fail)
        have A2 : Hid (At (w1.drewN nq) p k0 k1 m) := A1.out.blocks (fun j hj => rfl)
        have B2 : Hid (Below w1.heap.size w1 (w1.drewN nq)) := ⟨rfl, rfl, rfl, Nat.le_refl _, fun _ _ => rfl⟩
        generalize w1.drewN nq = w2 at *
        clear hw1 hw2 c2 c4 c5
        have HL := Lib.hid (lay_any p k0 k1 m key u HKey.out w2 A2.out HI.out)
        go_wp2_with fail
        refine HL.out.mono ?_
        rintro e w4 ⟨rfl, hA4, hK4⟩
        have HA4 := Lib.hid hA4
        have HK4 := Lib.hid hK4
        clear hA4 hK4
        go_wp2
        go_ret2
        rw [HB.out.1, HB.out.2, HP.out, HRM.out]
        exact ⟨rfl, p, rfl, HA4.out, fun j hj => .inl hj, (Kept.of (HB1.out.trans (B2.out.mono HB1.out.size)) (Nat.le_refl _)).trans HK4.out⟩
/-- The document's map, all of it at or above a block. -/
structure Live (w : World) (lo : Nat) (p : Pl) (k0 k1 : BitVec 64) (m : Mp ByteArray) : Prop where
  at_ : At w p k0 k1 m
  inv : MInv (hashN k0 k1) m
  keys : MKeys m
  own : ∀ j, p.own j → lo ≤ j
  le : lo ≤ w.heap.size
section
variable {w w' : World} {lo : Nat} {p : Pl} {k0 k1 : BitVec 64} {m : Mp ByteArray}
theorem Live.below {k : Nat} (h : Live w lo p k0 k1 m) (hk : w.heap.size ≤ k) (hb : Below k w w') : Live w' lo p k0 k1 m :=
  ⟨h.at_.below hk hb, h.inv, h.keys, h.own, Nat.le_trans h.le hb.size⟩
theorem Live.kept {S : Nat → Prop} (h : Live w lo p k0 k1 m) (hk : Kept S w w') (hs : ∀ j, p.own j → ¬ S j) : Live w' lo p k0 k1 m :=
  ⟨h.at_.kept hk hs, h.inv, h.keys, h.own, Nat.le_trans h.le hk.size⟩
theorem Live.low (h : Live w lo p k0 k1 m) (hk : Kept p.own w w') : Below lo w w' := hk.below h.le (fun j _ hj => h.own j hj)
theorem Live.len (h : Live w lo p k0 k1 m) : 1 ≤ m.ws.length := h.inv.len.1
/-- What an act leaves. -/
def Acted (w : World) (lo : Nat) (p : Pl) (k0 k1 : BitVec 64) (m' : Mp ByteArray) (w' : World) : Prop := ∃ q : Pl, q.b = p.b ∧ Live w' lo q k0 k1 m' ∧ (∀ j, q.own j → p.own j ∨ w.heap.size ≤ j) ∧ Kept p.own w w'
theorem acted {m' : Mp ByteArray} (h : Live w lo p k0 k1 m) (ht : Turned w p k0 k1 m' w') (I : MInv (hashN k0 k1) m') (hk : MKeys m') : Acted w lo p k0 k1 m' w' := by
  obtain ⟨q, h1, h2, h3, h4⟩ := ht
  refine ⟨q, h1, ⟨h2, I, hk, fun j hj => ?_, Nat.le_trans h.le h4.size⟩, h3, h4⟩
  rcases h3 j hj with h5 | h5
  · exact h.own j h5
  · exact Nat.le_trans h.le h5
theorem put_live (h : Live w lo p k0 k1 m) (key u : ByteArray) (hkey : key.size ≤ maxLen) :
    Calls Tryd.prog 23 #[.pointer (some ⟨p.b, 0, none⟩), .string key, .string u] w fun e w' => e = .returned (.tuple #[.bool (putB (hashN k0 k1) m key), .int .i64 (putE (hashN k0 k1) m key)]) ∧ Acted w lo p k0 k1 (put (hashN k0 k1) m key u) w' :=
  (put_any p k0 k1 m key u w h.at_ h.inv h.keys hkey).mono fun e w' ⟨h1, h2⟩ => ⟨h1, acted h h2 (put_inv h.inv key u) (h.keys.put h.inv hkey)⟩
theorem delete_live (h : Live w lo p k0 k1 m) (key : ByteArray) (hkey : key.size ≤ maxLen) :
    Calls Tryd.prog 26 #[.pointer (some ⟨p.b, 0, none⟩), .string key] w fun e w' => e = .returned (.bool (find (hashN k0 k1) m key).isSome) ∧ Acted w lo p k0 k1 (del (hashN k0 k1) m key) w' :=
  (delete_any p k0 k1 m key w h.at_ h.inv hkey).mono fun e w' ⟨h1, h2⟩ => ⟨h1, acted h h2 (del_inv h.inv key) (h.keys.del h.inv key)⟩
end
end Go.Proofs.YtcooapflofiolaaDoor.RM

/- Two rows that hold the same: Words and Texts of the first reference. -/
namespace Go.Proofs.YtcooapflofiolaaDoor
open Go Go.RowKit Go.Shelf
set_option linter.unusedVariables false
set_option linter.unusedSimpArgs false
set_option linter.unusedSectionVars false
set_option maxRecDepth 100000
set_option maxHeartbeats 4000000
def wordsL (l : List Nat) : List Value := l.map fun x => Value.int .u64 (x : Nat)
theorem words_same (l : List Nat) (v1 v2 : Value) (b1 b2 n : Nat) (hn : n ≤ 1000000) (w : World) (h1 : w.ownsRow b1 22 1 v1 n (wordsL l)) (h2 : w.ownsRow b2 22 1 v2 n (wordsL l)) :
    Calls Tryd.prog 45 #[v1, v2] w fun e w' => e = .returned (.bool true) ∧ Below w.heap.size w w' := by
  obtain ⟨a1, c1, rfl, _⟩ := own_val h1
  obtain ⟨a2, c2, rfl, _⟩ := own_val h2
  have hl : l.length = n := by have := h1.1; simpa [wordsL] using this
  have H1 := Lib.hid h1
  have H2 := Lib.hid h2
  clear h1 h2
  go_enter Tryd.func45, Tryd.ntmps45
  go_wp2
  go_loopw [13] (fun i wr => ∃ k : Nat, k ≤ n ∧ i = .int .i64 k ∧ Below w.heap.size w wr) (fun i _ => n - (intOf i).toNat)
  case atStart => exact ⟨0, by omega, rfl, Below.refl _ _⟩
  case round =>
    obtain ⟨k, hk, rfl, hB⟩ := hrel
    have HB := Lib.hid hB
    clear hB
    by_cases hlt : k < n
    · have hd : decide ((k : Int) < (n : Int)) = true := decide_eq_true (by omega)
      have hkn : (k : Int) < (n : Int) := by omega
      obtain ⟨g1, d1, e1, _, _, _, hc1⟩ := own_read (own_below H1.out (Nat.le_refl _) HB.out) (by omega)
      obtain ⟨g2, d2, e2, _, _, _, hc2⟩ := own_read (own_below H2.out (Nat.le_refl _) HB.out) (by omega)
      cases e1
      cases e2
      obtain ⟨x, hx⟩ : ∃ x, l[k]? = some x := ⟨_, List.getElem?_eq_getElem (by omega)⟩
      have hat : (wordsL l)[k]? = some (.int .u64 (x : Nat)) := by simp [wordsL, hx]
      have s1 := hc1 _ _ hat
      have s2 := hc2 _ _ hat
      clear hc1 hc2 hx hat
      go_upto_region 6 with fail
      go_quiet (fail)
      go_wp2_with fail
      go_roundw
      case rel => exact ⟨k + 1, by omega, by go_num, HB.out.trans ⟨rfl, rfl, rfl, Nat.le_refl _, fun _ _ => rfl⟩⟩
      case measure => simp [intOf]; omega
    · obtain rfl : k = n := by omega
      have hd : decide ((k : Int) < (k : Int)) = false := decide_eq_false (by omega)
      go_wp2
      go_ret
      exact ⟨rfl, HB.out⟩
theorem texts_same (l : List ByteArray) (v1 v2 : Value) (b1 b2 n : Nat) (hn : n ≤ 1000000) (w : World) (h1 : w.ownsRow b1 9 1 v1 n (textsV l)) (h2 : w.ownsRow b2 9 1 v2 n (textsV l)) :
    Calls Tryd.prog 46 #[v1, v2] w fun e w' => e = .returned (.bool true) ∧ Below w.heap.size w w' := by
  obtain ⟨a1, c1, rfl, _⟩ := own_val h1
  obtain ⟨a2, c2, rfl, _⟩ := own_val h2
  have hl : l.length = n := by have := h1.1; simpa [textsV] using this
  have H1 := Lib.hid h1
  have H2 := Lib.hid h2
  clear h1 h2
  go_enter Tryd.func46, Tryd.ntmps46
  go_wp2
  go_loopw [13] (fun i wr => ∃ k : Nat, k ≤ n ∧ i = .int .i64 k ∧ Below w.heap.size w wr) (fun i _ => n - (intOf i).toNat)
  case atStart => exact ⟨0, by omega, rfl, Below.refl _ _⟩
  case round =>
    obtain ⟨k, hk, rfl, hB⟩ := hrel
    have HB := Lib.hid hB
    clear hB
    by_cases hlt : k < n
    · have hd : decide ((k : Int) < (n : Int)) = true := decide_eq_true (by omega)
      have hkn : (k : Int) < (n : Int) := by omega
      obtain ⟨g1, d1, e1, _, _, _, hc1⟩ := own_read (own_below H1.out (Nat.le_refl _) HB.out) (by omega)
      obtain ⟨g2, d2, e2, _, _, _, hc2⟩ := own_read (own_below H2.out (Nat.le_refl _) HB.out) (by omega)
      cases e1
      cases e2
      obtain ⟨x, hx⟩ : ∃ x, l[k]? = some x := ⟨_, List.getElem?_eq_getElem (by omega)⟩
      have hat : (textsV l)[k]? = some (.string x) := by simp [textsV, hx]
      have s1 := hc1 _ _ hat
      have s2 := hc2 _ _ hat
      clear hc1 hc2 hx hat
      go_upto_region 6 with fail
      go_quiet (fail)
      go_wp2_with fail
      go_roundw
      case rel => exact ⟨k + 1, by omega, by go_num, HB.out.trans ⟨rfl, rfl, rfl, Nat.le_refl _, fun _ _ => rfl⟩⟩
      case measure => simp [intOf]; omega
    · obtain rfl : k = n := by omega
      have hd : decide ((k : Int) < (k : Int)) = false := decide_eq_false (by omega)
      go_wp2
      go_ret
      exact ⟨rfl, HB.out⟩
end Go.Proofs.YtcooapflofiolaaDoor

/- A map and the document's, alike. -/
namespace Go.Proofs.YtcooapflofiolaaDoor
open Go Go.RowKit Go.Shelf
set_option linter.unusedVariables false
set_option linter.unusedSimpArgs false
set_option linter.unusedSectionVars false
set_option maxRecDepth 100000
set_option maxHeartbeats 4000000
theorem words_read (l : List Nat) (v1 : Value) (b1 g2 d2 n : Nat) (hn : n ≤ 1000000) (w : World) (h1 : w.ownsRow b1 22 1 v1 n (wordsL l)) (h2 : ∀ j (x : Nat), l[j]? = some x → w.cell? ⟨g2, j, none⟩ = some (.int .u64 (x : Nat))) :
    Calls Tryd.prog 45 #[v1, .slice (some ⟨g2, 0, none⟩) n d2] w fun e w' => e = .returned (.bool true) ∧ Below w.heap.size w w' := by
  obtain ⟨a1, c1, rfl, _⟩ := own_val h1
  have hl : l.length = n := by have := h1.1; simpa [wordsL] using this
  have H1 := Lib.hid h1
  have H2 := Lib.hid h2
  clear h1 h2
  go_enter Tryd.func45, Tryd.ntmps45
  go_wp2
  go_loopw [13] (fun i wr => ∃ k : Nat, k ≤ n ∧ i = .int .i64 k ∧ Below w.heap.size w wr) (fun i _ => n - (intOf i).toNat)
  case atStart => exact ⟨0, by omega, rfl, Below.refl _ _⟩
  case round =>
    obtain ⟨k, hk, rfl, hB⟩ := hrel
    have HB := Lib.hid hB
    clear hB
    by_cases hlt : k < n
    · have hd : decide ((k : Int) < (n : Int)) = true := decide_eq_true (by omega)
      have hkn : (k : Int) < (n : Int) := by omega
      obtain ⟨g1, d1, e1, _, _, _, hc1⟩ := own_read (own_below H1.out (Nat.le_refl _) HB.out) (by omega)
      cases e1
      obtain ⟨x, hx⟩ : ∃ x, l[k]? = some x := ⟨_, List.getElem?_eq_getElem (by omega)⟩
      have hat : (wordsL l)[k]? = some (.int .u64 (x : Nat)) := by simp [wordsL, hx]
      have s1 := hc1 _ _ hat
      have s2 := low_cell HB.out (Nat.le_refl _) (H2.out _ _ hx)
      clear hc1 hx hat
      go_upto_region 6 with fail
      go_quiet (fail)
      go_wp2_with fail
      go_roundw
      case rel => exact ⟨k + 1, by omega, by go_num, HB.out.trans ⟨rfl, rfl, rfl, Nat.le_refl _, fun _ _ => rfl⟩⟩
      case measure => simp [intOf]; omega
    · obtain rfl : k = n := by omega
      have hd : decide ((k : Int) < (k : Int)) = false := decide_eq_false (by omega)
      go_wp2
      go_ret
      exact ⟨rfl, HB.out⟩
theorem alike_any (p q : Pl) (k0 k1 : BitVec 64) (m : Mp ByteArray) (w : World) (h : MS.At w p k0 k1 m) (I : MInv (hashN k0 k1) m) (r : RM.At w q k0 k1 m) :
    Calls Tryd.prog 53 #[.pointer (some ⟨p.b, 0, none⟩), .pointer (some ⟨q.b, 0, none⟩)] w fun e w' => e = .returned (.bool true) ∧ Below w.heap.size w w' := by
  have hgl := I.len
  have hmx := I.mx
  have AP : Hid (∀ W, Below w.heap.size w W → MS.At W p k0 k1 m) := fun W hW => h.below (Nat.le_refl _) hW
  have AQ : Hid (∀ W, Below w.heap.size w W → RM.At W q k0 k1 m) := fun W hW => r.below (Nat.le_refl _) hW
  have SK : Hid (∀ W, Below w.heap.size w W → W.cell? ⟨q.b, 4, none⟩ = some (.int .i64 m.n) ∧ W.cell? ⟨q.b, 5, none⟩ = some (.int .i64 m.tb) ∧ W.cell? ⟨q.b, 2, none⟩ = some (.slice (some ⟨q.bw, 0, none⟩) m.ws.length q.cw)) := by
    show ∀ W, _
    intro W hW
    exact ⟨(AQ.out W hW).c4, (AQ.out W hW).c5, (AQ.out W hW).c2⟩
  have C18 : Hid (∀ W, Below w.heap.size w W → Calls Tryd.prog 18 #[.pointer (some ⟨p.b, 0, none⟩)] W fun e w' => e = .returned (.int .i64 (m.n : Nat)) ∧ W = w') := fun W hW => MS.len_any p k0 k1 m W (AP.out W hW) I.len.1
  have C36 : Hid (∀ W, Below w.heap.size w W → Calls Tryd.prog 36 #[.pointer (some ⟨p.b, 0, none⟩)] W fun e w' => e = .returned (.int .i64 (m.tb : Nat)) ∧ W = w') := fun W hW => MS.tombs_any p k0 k1 m W (AP.out W hW) I.len.1
  have C31 : Hid (∀ W, Below w.heap.size w W → Calls Tryd.prog 31 #[.pointer (some ⟨p.b, 0, none⟩)] W fun e w' => ∃ v, e = .returned v ∧ w'.ownsRow W.heap.size 22 1 v m.ws.length (wordsL m.ws) ∧ Below w.heap.size w w') := fun W hW => (MS.controls_any p k0 k1 m W (AP.out W hW) I).mono fun _ _ ⟨v, h1, h2, h3⟩ => ⟨v, h1, h2, hW.trans (h3.mono hW.size)⟩
  have C45 : Hid (∀ W b v, Below w.heap.size w W → W.ownsRow b 22 1 v m.ws.length (wordsL m.ws) → Calls Tryd.prog 45 #[v, .slice (some ⟨q.bw, 0, none⟩) m.ws.length q.cw] W fun e w' => e = .returned (.bool true) ∧ Below w.heap.size w w') := fun W b v hW hv =>
    (words_read m.ws v b q.bw q.cw m.ws.length (by omega) W hv (fun j x hx => by
      have hj := (List.getElem?_eq_some_iff.1 hx).1
      have := (AQ.out W hW).wc hj
      rw [this]; unfold Mp.w; rw [List.getD_eq_getElem?_getD, hx]; rfl)).mono fun _ _ ⟨h1, h2⟩ => ⟨h1, hW.trans (h2.mono hW.size)⟩
  have C30 : Hid (∀ W, Below w.heap.size w W → Calls Tryd.prog 30 #[.pointer (some ⟨p.b, 0, none⟩)] W fun e w' => ∃ v, e = .returned v ∧ w'.ownsRow W.heap.size 9 1 v m.n (textsV (MS.keysL m)) ∧ Below W.heap.size W w' ∧ Below w.heap.size w w') := fun W hW => (MS.keys_any p k0 k1 m W (AP.out W hW) I).mono fun _ _ ⟨v, h1, h2, h3⟩ => ⟨v, h1, h2, h3, hW.trans (h3.mono hW.size)⟩
  have C76 : Hid (∀ W, Below w.heap.size w W → Calls Tryd.prog 76 #[.pointer (some ⟨q.b, 0, none⟩)] W fun e w' => ∃ v, e = .returned v ∧ w'.ownsRow W.heap.size 9 1 v m.n (textsV (MS.keysL m)) ∧ Below W.heap.size W w' ∧ Below w.heap.size w w') := fun W hW => (RM.keys_any q k0 k1 m W (AQ.out W hW) I).mono fun _ _ ⟨v, h1, h2, h3⟩ => ⟨v, h1, h2, h3, hW.trans (h3.mono hW.size)⟩
  have C46 : Hid (∀ W b1 b2 v1 v2, Below w.heap.size w W → W.ownsRow b1 9 1 v1 m.n (textsV (MS.keysL m)) → W.ownsRow b2 9 1 v2 m.n (textsV (MS.keysL m)) → Calls Tryd.prog 46 #[v1, v2] W fun e w' => e = .returned (.bool true) ∧ Below w.heap.size w w') := fun W b1 b2 v1 v2 hW h1 h2 => (texts_same (MS.keysL m) v1 v2 b1 b2 m.n (by omega) W h1 h2).mono fun _ _ ⟨h1, h2⟩ => ⟨h1, hW.trans (h2.mono hW.size)⟩
  clear h r I hgl hmx
  go_enter Tryd.func53, Tryd.ntmps53
  go_upto_region 1 with fail
  go_region_held3 (fun W => W.cell? ⟨q.b, 4, none⟩ = some (.int .i64 m.n) ∧ W.cell? ⟨q.b, 5, none⟩ = some (.int .i64 m.tb) ∧ W.cell? ⟨q.b, 2, none⟩ = some (.slice (some ⟨q.bw, 0, none⟩) m.ws.length q.cw))
    (first | (refine SK.out _ ?_; repeat (first | exact HB7.out | exact HB6.out | exact HB5.out | exact HB4.out | exact HB3.out | exact Below.refl _ _ | refine Below.drew ?_)))
    (first
      | (go_at_call 18; (with_reducible refine (C18.out _ ?_).mono ?_); (repeat (first | exact Below.refl _ _ | refine Below.drew ?_)); rintro e w' ⟨rfl, rfl⟩)
      | (go_at_call 36; (with_reducible refine (C36.out _ ?_).mono ?_); (repeat (first | exact Below.refl _ _ | refine Below.drew ?_)); rintro e w' ⟨rfl, rfl⟩)
      | (go_at_call 31; (with_reducible refine (C31.out _ ?_).mono ?_); (repeat (first | exact Below.refl _ _ | refine Below.drew ?_)); rintro e w3 ⟨v3, rfl, h3, hb3⟩; have V3 := Lib.hid h3; have HB3 := Lib.hid hb3; clear h3 hb3)
      | (go_at_call 45; (with_reducible refine (C45.out _ _ _ HB3.out V3.out).mono ?_); rintro e w4 ⟨rfl, hb4⟩; have HB4 := Lib.hid hb4; clear hb4)
      | (go_at_call 30; (with_reducible refine (C30.out _ ?_).mono ?_); (first | exact HB4.out | exact HB6.out); rintro e w5 ⟨v5, rfl, h5, hbl5, hb5⟩; have V5 := Lib.hid h5; have HB5 := Lib.hid hb5; have HL5 := Lib.hid hbl5; clear h5 hb5 hbl5)
      | (go_at_call 76; (with_reducible refine (C76.out _ ?_).mono ?_); (first | exact HB5.out | exact HB4.out); rintro e w6 ⟨v6, rfl, h6, hbl6, hb6⟩; have V6 := Lib.hid h6; have HB6 := Lib.hid hb6; have HL6 := Lib.hid hbl6; clear h6 hb6 hbl6)
      | (go_at_call 46; (first | (with_reducible refine (C46.out _ _ _ _ _ HB6.out (own_below V5.out (Nat.le_refl _) HL6.out) V6.out).mono ?_) | (with_reducible refine (C46.out _ _ _ _ _ HB5.out V5.out (own_below V6.out (Nat.le_refl _) HL5.out)).mono ?_)); rintro e w7 ⟨rfl, hb7⟩; have HB7 := Lib.hid hb7; clear hb7))
  all_goals (
    go_wp2
    go_ret
    exact ⟨rfl, HB7.out⟩)
end Go.Proofs.YtcooapflofiolaaDoor

/- Two maps that New made, one behind the other, in any order: what SwissMaps begins with. -/
namespace Go.Proofs.YtcooapflofiolaaDoor.MS
open Go Go.RowKit Go.Shelf
set_option linter.unusedVariables false
section
variable {w w' : World} {lo : Nat} {p : Pl} {k0 k1 : BitVec 64} {m : Mp VT}
theorem Live.lower {l : Nat} (h : Live w lo p k0 k1 m) (hl : l ≤ lo) (h0 : 0 < l) : Live w l p k0 k1 m :=
  ⟨h.at_, h.inv, h.keys, h.sh, fun j hj => Nat.le_trans hl (h.own j hj), h0, Nat.le_trans hl h.le⟩
end
/-- A map that New made in a world behind 'w1'. -/
def Newd (w1 W w' : World) (p : Pl) (k0 k1 : BitVec 64) (g : Nat) : Prop := Live w' w1.heap.size p k0 k1 (empty g) ∧ (∀ j, p.own j → W.heap.size ≤ j ∧ j < w'.heap.size) ∧ Below W.heap.size W w'
theorem new_from (k0 k1 : BitVec 64) (hint : Int) (g : Nat) (hg : needF hint = (g : Int)) (h0 : g ≠ 0) (w1 : World) (hS : Sh w1) (W : World) (hW : Below w1.heap.size w1 W) :
    Calls Tryd.prog 13 #[.agg #[.int .u64 (Sip.U k0), .int .u64 (Sip.U k1)], .int .i64 hint] W fun e w' => ∃ p : Pl, e = .returned (.pointer (some ⟨p.b, 0, none⟩)) ∧ Newd w1 W w' p k0 k1 g :=
  (new_live k0 k1 hint W (hS.below hW)).mono fun e w' ⟨hb, h⟩ => by
    rcases h with ⟨h1, _⟩ | ⟨p, g', h1, h2, h3⟩
    · rw [hg] at h1; omega
    · obtain rfl : g' = g := by rw [hg] at h1; omega
      exact ⟨p, h2, h3.lower hW.size (sh_pos hS), fun j hj => ⟨h3.own j hj, h3.at_.lt hj⟩, hb⟩
/-- Two maps, apart from one another. -/
def Both (lo : Nat) (w : World) (px : Pl) (k0 k1 : BitVec 64) (mx : Mp VT) (py : Pl) (l0 l1 : BitVec 64) (my : Mp VT) : Prop := Live w lo px k0 k1 mx ∧ Live w lo py l0 l1 my ∧ ∀ j, px.own j → ¬ py.own j
theorem both_xy {w1 W wa W' wb : World} {px py : Pl} {k0 k1 l0 l1 : BitVec 64} {g h : Nat} (nx : Newd w1 W wa px k0 k1 g) (ny : Newd w1 W' wb py l0 l1 h) (hb : Below wa.heap.size wa W') : Both w1.heap.size wb px k0 k1 (empty g) py l0 l1 (empty h) :=
  ⟨nx.1.below (Nat.le_refl _) (hb.trans (ny.2.2.mono hb.size)), ny.1, fun j h1 h2 => by have := (nx.2.1 j h1).2; have := (ny.2.1 j h2).1; have := hb.size; omega⟩
theorem both_yx {w1 W wa W' wb : World} {px py : Pl} {k0 k1 l0 l1 : BitVec 64} {g h : Nat} (ny : Newd w1 W wb py l0 l1 h) (nx : Newd w1 W' wa px k0 k1 g) (hb : Below wb.heap.size wb W') : Both w1.heap.size wa px k0 k1 (empty g) py l0 l1 (empty h) :=
  ⟨nx.1, ny.1.below (Nat.le_refl _) (hb.trans (nx.2.2.mono hb.size)), fun j h1 h2 => by have := (ny.2.1 j h2).2; have := (nx.2.1 j h1).1; have := hb.size; omega⟩
/-- What an act on the one leaves of both. -/
theorem Both.actX {lo : Nat} {w w' : World} {px py : Pl} {k0 k1 l0 l1 : BitVec 64} {mx my m' : Mp VT} (h : Both lo w px k0 k1 mx py l0 l1 my) (ha : Acted w lo px k0 k1 m' w') :
    ∃ q : Pl, q.b = px.b ∧ Both lo w' q k0 k1 m' py l0 l1 my ∧ (∀ j, (q.own j ∨ py.own j) → (px.own j ∨ py.own j) ∨ w.heap.size ≤ j) ∧ Kept px.own w w' := by
  obtain ⟨q, h1, h2, h3, h4⟩ := ha
  refine ⟨q, h1, ⟨h2, h.2.1.kept h4 (fun j hj e => h.2.2 j e hj) h.1.zero, fun j hj hy => ?_⟩, fun j hj => ?_, h4⟩
  · rcases h3 j hj with h5 | h5
    · exact h.2.2 j h5 hy
    · have := h.2.1.at_.lt hy; omega
  · rcases hj with hj | hj
    · rcases h3 j hj with h5 | h5
      · exact .inl (.inl h5)
      · exact .inr h5
    · exact .inl (.inr hj)
theorem Both.actY {lo : Nat} {w w' : World} {px py : Pl} {k0 k1 l0 l1 : BitVec 64} {mx my m' : Mp VT} (h : Both lo w px k0 k1 mx py l0 l1 my) (ha : Acted w lo py l0 l1 m' w') :
    ∃ q : Pl, q.b = py.b ∧ Both lo w' px k0 k1 mx q l0 l1 m' ∧ (∀ j, (px.own j ∨ q.own j) → (px.own j ∨ py.own j) ∨ w.heap.size ≤ j) ∧ Kept py.own w w' := by
  obtain ⟨q, h1, h2, h3, h4⟩ := ha
  refine ⟨q, h1, ⟨h.1.kept h4 (fun j hj e => h.2.2 j hj e) h.2.1.zero, h2, fun j hj hy => ?_⟩, fun j hj => ?_, h4⟩
  · rcases h3 j hy with h5 | h5
    · exact h.2.2 j hj h5
    · have := h.1.at_.lt hj; omega
  · rcases hj with hj | hj
    · exact .inl (.inl hj)
    · rcases h3 j hj with h5 | h5
      · exact .inl (.inr h5)
      · exact .inr h5
theorem Both.below {lo k : Nat} {w w' : World} {px py : Pl} {k0 k1 l0 l1 : BitVec 64} {mx my : Mp VT} (h : Both lo w px k0 k1 mx py l0 l1 my) (hk : w.heap.size ≤ k) (hb : Below k w w') : Both lo w' px k0 k1 mx py l0 l1 my :=
  ⟨h.1.below hk hb, h.2.1.below hk hb, h.2.2⟩
end Go.Proofs.YtcooapflofiolaaDoor.MS

/- A map and the document's, side by side, apart from one another. -/
namespace Go.Proofs.YtcooapflofiolaaDoor
open Go Go.RowKit Go.Shelf
set_option linter.unusedVariables false
set_option linter.unusedSimpArgs false
set_option linter.unusedSectionVars false
set_option maxRecDepth 100000
structure BR (lo : Nat) (w : World) (p q : Pl) (k0 k1 : BitVec 64) (m m2 : Mp ByteArray) : Prop where
  x : MS.Live w lo p k0 k1 m
  y : RM.Live w lo q k0 k1 m2
  ne : ∀ j, p.own j → ¬ q.own j
section
variable {lo : Nat} {w w' : World} {p q : Pl} {k0 k1 : BitVec 64} {m m2 m' : Mp ByteArray}
theorem BR.below {k : Nat} (h : BR lo w p q k0 k1 m m2) (hk : w.heap.size ≤ k) (hb : Below k w w') : BR lo w' p q k0 k1 m m2 := ⟨h.x.below hk hb, h.y.below hk hb, h.ne⟩
theorem BR.kept {S : Nat → Prop} (h : BR lo w p q k0 k1 m m2) (hk : Kept S w w') (hs : ∀ j, lo ≤ j → j < w.heap.size → (p.own j ∨ q.own j) → ¬ S j) (h0 : ¬ S 0) : BR lo w' p q k0 k1 m m2 :=
  ⟨h.x.kept hk (fun j hj => hs j (h.x.own j hj) (h.x.at_.lt hj) (.inl hj)) h0, h.y.kept hk (fun j hj => hs j (h.y.own j hj) (h.y.at_.lt hj) (.inr hj)), h.ne⟩
/-- What is owned by the two. -/
def owns (p q : Pl) : Nat → Prop := fun j => p.own j ∨ q.own j
theorem BR.lt (h : BR lo w p q k0 k1 m m2) : ∀ j, owns p q j → j < w.heap.size := fun j hj => hj.elim (fun h1 => h.x.at_.lt h1) (fun h1 => h.y.at_.lt h1)
theorem BR.ge (h : BR lo w p q k0 k1 m m2) : ∀ j, owns p q j → lo ≤ j := fun j hj => hj.elim (h.x.own j) (h.y.own j)
/-- One step: what is owned may change; what is owned behind it was owned, or is new. -/
structure Stq (w : World) (o : Nat → Prop) (w' : World) (o' : Nat → Prop) : Prop where
  inc : ∀ j, o' j → o j ∨ w.heap.size ≤ j
  k : Kept o w w'
theorem Stq.trans {a b c : World} {o o1 o2 : Nat → Prop} (h : Stq a o b o1) (k : Stq b o1 c o2) : Stq a o c o2 :=
  ⟨fun j hj => (k.inc j hj).elim (h.inc j) (fun h2 => .inr (Nat.le_trans h.k.size h2)),
   h.k.join k.k (fun _ h => h) (fun i hi h1 => (h.inc i h1).resolve_right (by omega))⟩
theorem Stq.refl (w : World) (o : Nat → Prop) : Stq w o w o := ⟨fun _ h => .inl h, Kept.refl _ _⟩
theorem Stq.cell {o o' : Nat → Prop} (k : Stq w o w' o') {p : Addr} {v : Value} (h : w.cell? p = some v) (hs : ¬ o p.block) : w'.cell? p = some v := kept_cell k.k h hs
theorem BR.low (h : BR lo w p q k0 k1 m m2) {o' : Nat → Prop} (k : Stq w (owns p q) w' o') : Below lo w w' := k.k.below h.x.le (fun j _ hj => h.ge j hj)
theorem BR.actX (h : BR lo w p q k0 k1 m m2) (ha : MS.Acted w lo p k0 k1 m' w') : ∃ p2 : Pl, p2.b = p.b ∧ BR lo w' p2 q k0 k1 m' m2 ∧ Stq w (owns p q) w' (owns p2 q) := by
  obtain ⟨p2, h1, h2, h3, h4⟩ := ha
  refine ⟨p2, h1, ⟨h2, h.y.kept h4 (fun j hj e => h.ne j e hj), fun j hj hy => ?_⟩, fun j hj => ?_, h4.weaken fun _ => .inl⟩
  · rcases h3 j hj with h5 | h5
    · exact h.ne j h5 hy
    · have := h.y.at_.lt hy; omega
  · rcases hj with hj | hj
    · rcases h3 j hj with h5 | h5
      · exact .inl (.inl h5)
      · exact .inr h5
    · exact .inl (.inr hj)
theorem BR.actY (h : BR lo w p q k0 k1 m m2) (ha : RM.Acted w lo q k0 k1 m' w') : ∃ q2 : Pl, q2.b = q.b ∧ BR lo w' p q2 k0 k1 m m' ∧ Stq w (owns p q) w' (owns p q2) := by
  obtain ⟨q2, h1, h2, h3, h4⟩ := ha
  refine ⟨q2, h1, ⟨h.x.kept h4 (fun j hj e => h.ne j hj e) (fun e => by have := h.y.own 0 e; have := h.x.pos; omega), h2, fun j hj hy => ?_⟩, fun j hj => ?_, h4.weaken fun _ => .inr⟩
  · rcases h3 j hy with h5 | h5
    · exact h.ne j hj h5
    · have := h.x.at_.lt hj; omega
  · rcases hj with hj | hj
    · exact .inl (.inl hj)
    · rcases h3 j hj with h5 | h5
      · exact .inl (.inr h5)
      · exact .inr h5
theorem BR.putX (h : BR lo w p q k0 k1 m m2) (key u : ByteArray) (hkey : key.size ≤ maxLen) :
    Calls Tryd.prog 17 #[.pointer (some ⟨p.b, 0, none⟩), .string key, .string u] w fun e w' => e = .returned (.tuple #[.bool (putB (hashN k0 k1) m key), .int .i64 (putE (hashN k0 k1) m key)]) ∧ ∃ p2 : Pl, p2.b = p.b ∧ BR lo w' p2 q k0 k1 (put (hashN k0 k1) m key u) m2 ∧ Stq w (owns p q) w' (owns p2 q) :=
  (MS.put_live h.x key u hkey).mono fun _ _ ⟨h1, h2⟩ => ⟨h1, h.actX h2⟩
theorem BR.putY (h : BR lo w p q k0 k1 m m2) (key u : ByteArray) (hkey : key.size ≤ maxLen) :
    Calls Tryd.prog 23 #[.pointer (some ⟨q.b, 0, none⟩), .string key, .string u] w fun e w' => e = .returned (.tuple #[.bool (putB (hashN k0 k1) m2 key), .int .i64 (putE (hashN k0 k1) m2 key)]) ∧ ∃ q2 : Pl, q2.b = q.b ∧ BR lo w' p q2 k0 k1 m (put (hashN k0 k1) m2 key u) ∧ Stq w (owns p q) w' (owns p q2) :=
  (RM.put_live h.y key u hkey).mono fun _ _ ⟨h1, h2⟩ => ⟨h1, h.actY h2⟩
theorem BR.delX (h : BR lo w p q k0 k1 m m2) (key : ByteArray) (hkey : key.size ≤ maxLen) :
    Calls Tryd.prog 16 #[.pointer (some ⟨p.b, 0, none⟩), .string key] w fun e w' => e = .returned (.bool (find (hashN k0 k1) m key).isSome) ∧ ∃ p2 : Pl, p2.b = p.b ∧ BR lo w' p2 q k0 k1 (del (hashN k0 k1) m key) m2 ∧ Stq w (owns p q) w' (owns p2 q) :=
  (MS.delete_live h.x key hkey).mono fun _ _ ⟨h1, h2⟩ => ⟨h1, h.actX h2⟩
theorem BR.delY (h : BR lo w p q k0 k1 m m2) (key : ByteArray) (hkey : key.size ≤ maxLen) :
    Calls Tryd.prog 26 #[.pointer (some ⟨q.b, 0, none⟩), .string key] w fun e w' => e = .returned (.bool (find (hashN k0 k1) m2 key).isSome) ∧ ∃ q2 : Pl, q2.b = q.b ∧ BR lo w' p q2 k0 k1 m (del (hashN k0 k1) m2 key) ∧ Stq w (owns p q) w' (owns p q2) :=
  (RM.delete_live h.y key hkey).mono fun _ _ ⟨h1, h2⟩ => ⟨h1, h.actY h2⟩
theorem BR.same (h : BR lo w p q k0 k1 m m2) (hk : Kept (fun _ => False) w w') : BR lo w' p q k0 k1 m m2 := h.kept hk (fun _ _ _ _ e => e) (fun e => e)
theorem BR.delXk (h : BR lo w p q k0 k1 m m2) (key : ByteArray) (hkey : key.size ≤ maxLen) (W : World) (hW : Kept (fun _ => False) w W) :
    Calls Tryd.prog 16 #[.pointer (some ⟨p.b, 0, none⟩), .string key] W fun e w' => e = .returned (.bool (find (hashN k0 k1) m key).isSome) ∧ ∃ p2 : Pl, p2.b = p.b ∧ BR lo w' p2 q k0 k1 (del (hashN k0 k1) m key) m2 ∧ Stq w (owns p q) w' (owns p2 q) :=
  ((h.same hW).delX key hkey).mono fun _ _ ⟨h1, p2, h2, h3, h4⟩ => ⟨h1, p2, h2, h3, (Stq.mk (fun _ h => .inl h) (hW.weaken fun _ h => h.elim)).trans h4⟩
theorem BR.delYk (h : BR lo w p q k0 k1 m m2) (key : ByteArray) (hkey : key.size ≤ maxLen) (W : World) (hW : Kept (fun _ => False) w W) :
    Calls Tryd.prog 26 #[.pointer (some ⟨q.b, 0, none⟩), .string key] W fun e w' => e = .returned (.bool (find (hashN k0 k1) m2 key).isSome) ∧ ∃ q2 : Pl, q2.b = q.b ∧ BR lo w' p q2 k0 k1 m (del (hashN k0 k1) m2 key) ∧ Stq w (owns p q) w' (owns p q2) :=
  ((h.same hW).delY key hkey).mono fun _ _ ⟨h1, p2, h2, h3, h4⟩ => ⟨h1, p2, h2, h3, (Stq.mk (fun _ h => .inl h) (hW.weaken fun _ h => h.elim)).trans h4⟩
/-- A copy in the place of the first. -/
theorem BR.swap {p2 : Pl} (h : BR lo w p q k0 k1 m m2) (hb : Below w.heap.size w w') (ha : MS.At w' p2 k0 k1 m) (ho : ∀ j, p2.own j → w.heap.size ≤ j) : BR lo w' p2 q k0 k1 m m2 :=
  have h2 := h.below (Nat.le_refl _) hb
  ⟨⟨ha, h.x.inv, h.x.keys, h2.x.sh, fun j hj => Nat.le_trans h.x.le (ho j hj), h.x.pos, h2.x.le⟩, h2.y, fun j hj hy => by have := ho j hj; have := h.y.at_.lt hy; omega⟩
/-- Both made. -/
structure NX (w1 W w' : World) (p : Pl) (k0 k1 : BitVec 64) (g : Nat) : Prop where
  a : MS.Live w' w1.heap.size p k0 k1 (empty g)
  o : ∀ j, p.own j → W.heap.size ≤ j ∧ j < w'.heap.size
  b : Below W.heap.size W w'
structure NY (w1 W w' : World) (p : Pl) (k0 k1 : BitVec 64) (g : Nat) : Prop where
  a : RM.Live w' w1.heap.size p k0 k1 (empty g)
  o : ∀ j, p.own j → W.heap.size ≤ j ∧ j < w'.heap.size
  b : Below W.heap.size W w'
theorem newX (k0 k1 : BitVec 64) (hint : Int) (g : Nat) (hg : needF hint = (g : Int)) (h0 : g ≠ 0) (w1 : World) (hS : Sh w1) (W : World) (hW : Below w1.heap.size w1 W) :
    Calls Tryd.prog 13 #[.agg #[.int .u64 (Sip.U k0), .int .u64 (Sip.U k1)], .int .i64 hint] W fun e w' => ∃ p : Pl, e = .returned (.pointer (some ⟨p.b, 0, none⟩)) ∧ NX w1 W w' p k0 k1 g :=
  (MS.new_from k0 k1 hint g hg h0 w1 hS W hW).mono fun e w' ⟨p, h1, h2⟩ => ⟨p, h1, h2.1, h2.2.1, h2.2.2⟩
theorem newY (k0 k1 : BitVec 64) (hint : Int) (g : Nat) (hg : needF hint = (g : Int)) (h0 : g ≠ 0) (w1 : World) (W : World) (hW : Below w1.heap.size w1 W) :
    Calls Tryd.prog 20 #[.int .u64 (Sip.U k0), .int .u64 (Sip.U k1), .int .i64 hint] W fun e w' => ∃ p : Pl, e = .returned (.pointer (some ⟨p.b, 0, none⟩)) ∧ NY w1 W w' p k0 k1 g :=
  (RM.new_any k0 k1 hint W).mono fun e w' ⟨hb, h⟩ => by
    rcases h with ⟨h1, _⟩ | ⟨hgd, p, g', h1, h2, h3, h4⟩
    · rw [hg] at h1; omega
    · obtain rfl : g' = g := by rw [hg] at h1; omega
      exact ⟨p, h2, ⟨h3, empty_inv (by rw [← h1]; exact hgd), MKeys.empty g', fun j hj => Nat.le_trans hW.size (h4 j hj), Nat.le_trans hW.size hb.size⟩, fun j hj => ⟨h4 j hj, h3.lt hj⟩, hb⟩
theorem new0X (k0 k1 : BitVec 64) (hint : Int) (hg : needF hint = 0) (W : World) :
    Calls Tryd.prog 13 #[.agg #[.int .u64 (Sip.U k0), .int .u64 (Sip.U k1)], .int .i64 hint] W fun e w' => e = .returned (.pointer none) ∧ Below W.heap.size W w' :=
  (MS.new_any k0 k1 hint W).mono fun e w' ⟨hb, h⟩ => by
    rcases h with ⟨_, h2⟩ | ⟨h3, p, g', h1, _⟩
    · exact ⟨h2, hb⟩
    · have h4 := goodB_bounds h3; omega
theorem new0Y (k0 k1 : BitVec 64) (hint : Int) (hg : needF hint = 0) (W : World) :
    Calls Tryd.prog 20 #[.int .u64 (Sip.U k0), .int .u64 (Sip.U k1), .int .i64 hint] W fun e w' => e = .returned (.pointer none) ∧ Below W.heap.size W w' :=
  (RM.new_any k0 k1 hint W).mono fun e w' ⟨hb, h⟩ => by
    rcases h with ⟨_, h2⟩ | ⟨h3, p, g', h1, _⟩
    · exact ⟨h2, hb⟩
    · have h4 := goodB_bounds h3; omega
theorem br_xy {w1 W wa W' wb : World} {px py : Pl} {g : Nat} (nx : NX w1 W wa px k0 k1 g) (ny : NY w1 W' wb py k0 k1 g) (hb : Below wa.heap.size wa W') : BR w1.heap.size wb px py k0 k1 (empty g) (empty g) :=
  ⟨nx.a.below (Nat.le_refl _) (hb.trans (ny.b.mono hb.size)), ny.a, fun j h1 h2 => by have := (nx.o j h1).2; have := (ny.o j h2).1; have := hb.size; omega⟩
theorem br_yx {w1 W wa W' wb : World} {px py : Pl} {g : Nat} (ny : NY w1 W wb py k0 k1 g) (nx : NX w1 W' wa px k0 k1 g) (hb : Below wb.heap.size wb W') : BR w1.heap.size wa px py k0 k1 (empty g) (empty g) :=
  ⟨nx.a, ny.a.below (Nat.le_refl _) (hb.trans (nx.b.mono hb.size)), fun j h1 h2 => by have := (ny.o j h2).2; have := (nx.o j h1).1; have := hb.size; omega⟩
end
end Go.Proofs.YtcooapflofiolaaDoor

/- The walk through a map of texts: New, Next, Left. -/
namespace Go.Proofs.YtcooapflofiolaaDoor
set_option linter.unusedVariables false
theorem TR.drop {w : World} {n : Nat} {k : ByteArray} {l : List ByteArray} {b off : Nat} (h : TR w (some ⟨b, off, none⟩) (n + 1) (k :: l)) : TR w (some ⟨b, off + 1, none⟩) n l := by
  refine ⟨by have := h.1; simpa using this, ?_⟩
  obtain ⟨b', off', e, hc⟩ := h.2.resolve_left (by omega)
  injection e with e
  injection e with e1 e2
  subst e1 e2
  refine .inr ⟨b, off + 1, rfl, fun j hj => ?_⟩
  have := hc (j + 1) (by omega)
  rw [Nat.add_assoc, Nat.add_comm 1 j]
  simpa using this
theorem TR.kept {w w' : World} {S : Nat → Prop} {a : Option Addr} {n : Nat} {l : List ByteArray} (h : TR w a n l) (hk : Kept S w w') (hs : ∀ b off, a = some ⟨b, off, none⟩ → ¬ S b) : TR w' a n l := by
  refine ⟨h.1, ?_⟩
  rcases h.2 with h0 | ⟨b, off, e, hc⟩
  · exact .inl h0
  · exact .inr ⟨b, off, e, fun j hj => kept_cell hk (hc j hj) (hs b off e)⟩
end Go.Proofs.YtcooapflofiolaaDoor
namespace Go.Proofs.YtcooapflofiolaaDoor.MS
open Go Go.RowKit Go.Shelf
set_option linter.unusedVariables false
set_option linter.unusedSimpArgs false
set_option maxRecDepth 100000
set_option maxHeartbeats 4000000
theorem frozen_cells {w : World} {b i : Nat} {C : Array Value} {t : TypeId} (h : w.heap[b]? = some (.cells C t (0, 0))) : w.frozen? ⟨b, i, none⟩ = false := by
  unfold World.frozen?; simp [h]
/-- A walk in memory: the map it goes through, and the keys that are ahead; all of it at or above a block. -/
def Wk (w : World) (wl b : Nat) (pb : Nat) (l : List ByteArray) : Prop := ∃ a c, w.heap[b]? = some (.cells #[.pointer (some ⟨pb, 0, none⟩), .slice a l.length c] 119 (0, 0)) ∧ TR w a l.length l ∧ l.length ≤ c ∧ (∀ g off, a = some ⟨g, off, none⟩ → wl ≤ g ∧ g ≠ b) ∧ wl ≤ b
theorem Wk.kept {w w' : World} {S : Nat → Prop} {wl b pb : Nat} {l : List ByteArray} (h : Wk w wl b pb l) (hk : Kept S w w') (hs : ∀ j, wl ≤ j → ¬ S j) : Wk w' wl b pb l := by
  obtain ⟨a, c, h1, h2, h3, h4, h5⟩ := h
  exact ⟨a, c, (hk.block b (Array.getElem?_eq_some_iff.1 h1).1 (hs b h5)).trans h1, h2.kept hk (fun g off e => hs g (h4 g off e).1), h3, h4, h5⟩
theorem Wk.below {w w' : World} {wl b pb : Nat} {l : List ByteArray} (h : Wk w wl b pb l) (hb : Below w.heap.size w w') : Wk w' wl b pb l :=
  h.kept (Kept.of (S := fun _ => False) hb (Nat.le_refl _)) (fun _ _ h => h)
theorem wnew_any (p : Pl) (k0 k1 : BitVec 64) (m : Mp VT) (w : World) (h : At w p k0 k1 m) (I : MInv (hashN k0 k1) m) :
    Calls Tryd.prog 24 #[.pointer (some ⟨p.b, 0, none⟩)] w fun e w' => ∃ b, e = .returned (.pointer (some ⟨b, 0, none⟩)) ∧ Wk w' w.heap.size b p.b (keysL m) ∧ Below w.heap.size w w' := by
  have HK := Lib.hid (keys_any p k0 k1 m w h I)
  have HKL : Hid ((keysL m).length = m.n) := by show _ = _; unfold keysL; rw [List.length_map, full_len I]
  clear h I
  go_enter Tryd.func24, Tryd.ntmps24
  go_wp2_with fail
  refine HK.out.mono ?_
  rintro e w1 ⟨v, rfl, hv, hb⟩
  obtain ⟨a, c, rfl, hc⟩ := own_val hv
  have HV := Lib.hid hv
  have HB := Lib.hid hb
  clear hv hb
  go_wp2
  go_ret
  refine ⟨w1.heap.size, rfl, ⟨a, c, by rw [HKL.out]; exact heap_alloc_new w1 _, ?_, by rw [HKL.out]; exact hc, ?_, HB.out.size⟩, HB.out.alloc HB.out.size _⟩
  · rw [HKL.out]
    refine ⟨HKL.out, ?_⟩
    rcases Nat.eq_zero_or_pos m.n with h0 | h0
    · exact .inl h0
    · obtain ⟨g, cap, e, _, _, hg, hcell⟩ := own_read HV.out h0
      injection e with e1 _ _
      subst e1
      refine .inr ⟨g, 0, rfl, fun j hj => ?_⟩
      have hj' : j < (keysL m).length := by rw [HKL.out]; exact hj
      have := hcell j (.string ((keysL m).getD j default)) (by simp [textsV, hj'])
      rw [Nat.zero_add]
      exact low_cell ((Below.refl _ w1).alloc (Nat.le_refl _) _) (Nat.le_refl _) this
  · intro g off e
    rcases HV.out.2 with ⟨h1, _⟩ | ⟨g', cap, cur, h1, h2, h3, h4⟩
    · injection h1 with h1 _ _; rw [h1] at e; cases e
    · injection h1 with h1 _ _
      rw [h1] at e
      injection e with e
      injection e with e _
      subst e
      exact ⟨h2, Nat.ne_of_lt (Array.getElem?_eq_some_iff.1 h3).1⟩
theorem left_any (wl b pb : Nat) (l : List ByteArray) (w : World) (h : Wk w wl b pb l) :
    Calls Tryd.prog 29 #[.pointer (some ⟨b, 0, none⟩)] w fun e w' => e = .returned (.int .i64 (l.length : Nat)) ∧ w = w' := by
  obtain ⟨a, c, h1, _⟩ := h
  have c1 : w.cell? ⟨b, 1, none⟩ = some (.slice a l.length c) := by unfold World.cell?; simp [h1]
  clear h1
  go_enter Tryd.func29, Tryd.ntmps29
  go_wp2
  go_ret
  exact ⟨rfl, rfl⟩
def aheadOf (b : Nat) (w : World) : Nat := match w.cell? ⟨b, 1, none⟩ with | some (.slice _ n _) => n | _ => 0
/-- What Next answers, and the keys that are then ahead. -/
def nextL (H : ByteArray → Nat) (m : Mp VT) : List ByteArray → (ByteArray × VT × Bool) × List ByteArray
  | [] => ((ByteArray.empty, default, false), [])
  | k :: r => if (getV H m k).2 then ((k, (getV H m k).1, true), r) else nextL H m r
theorem next_any (p : Pl) (k0 k1 : BitVec 64) (m : Mp VT) (b : Nat) (l : List ByteArray) (w : World) (lo : Nat) (h : Live w lo p k0 k1 m) (wl : Nat) (hw : Wk w wl b p.b l) (hk : ∀ k, k ∈ l → k.size ≤ maxLen) (hb : ¬ p.own b) (h0 : 0 < b) :
    Calls Tryd.prog 27 #[.pointer (some ⟨b, 0, none⟩)] w fun e w' => e = .returned (.tuple #[.string (nextL (hashN k0 k1) m l).1.1, val (nextL (hashN k0 k1) m l).1.2.1, .bool (nextL (hashN k0 k1) m l).1.2.2]) ∧ Wk w' wl b p.b (nextL (hashN k0 k1) m l).2 ∧ Kept (· = b) w w' := by
  have HL := Lib.hid h
  have HW := Lib.hid hw
  have HKS := Lib.hid hk
  have HNB := Lib.hid hb
  clear h hw hk hb
  go_enter Tryd.func27, Tryd.ntmps27
  go_wp2
  go_loopw [3] (fun s wr => s = .string ByteArray.empty ∧ ∃ l', Wk wr wl b p.b l' ∧ nextL (hashN k0 k1) m l' = nextL (hashN k0 k1) m l ∧ (∀ k, k ∈ l' → k ∈ l) ∧ Kept (· = b) w wr) (fun _ wr => aheadOf b wr)
  case atStart => exact ⟨rfl, l, HW.out, rfl, fun k h => h, Kept.refl _ _⟩
  case round =>
    obtain ⟨rfl, l', hw', hn, hsub, hK⟩ := hrel
    have HN := Lib.hid hn
    have HSUB := Lib.hid hsub
    have HK := Lib.hid hK
    obtain ⟨a, c, h1, h2, h3, h4, h5⟩ := hw'
    have c0 : wr.cell? ⟨b, 0, none⟩ = some (.pointer (some ⟨p.b, 0, none⟩)) := by unfold World.cell?; simp [h1]
    have c1 : wr.cell? ⟨b, 1, none⟩ = some (.slice a l'.length c) := by unfold World.cell?; simp [h1]
    have f1 : wr.frozen? ⟨b, 1, none⟩ = false := frozen_cells h1
    have H1 := Lib.hid h1
    clear hn hsub hK h1
    cases l' with
    | nil =>
      have HNE : Hid ((ByteArray.empty, default, false) = (nextL (hashN k0 k1) m l).1 ∧ ([] : List ByteArray) = (nextL (hashN k0 k1) m l).2) := by
        have := HN.out
        constructor
        · rw [← this]; rfl
        · rw [← this]; rfl
      have HW2 : Hid (Wk wr wl b p.b []) := ⟨a, c, H1.out, h2, h3, h4, h5⟩
      clear h2 h3 h4
      go_wp2
      refine bodyPost_ret (v := .tuple #[.string ByteArray.empty, val default, .bool false]) ?_ rfl ⟨?_, ?_, HK.out⟩
      · simp [results, Tryd.results27, go_sem]; exact ⟨rfl, rfl⟩
      · rw [← HNE.out.1]
      · rw [← HNE.out.2]; exact HW2.out
    | cons k r =>
      obtain ⟨g, off, rfl, hc⟩ := h2.2.resolve_left (by simp)
      have x0 := hc 0 (by simp)
      rw [Nat.add_zero] at x0
      have x0' : wr.cell? ⟨g, off, none⟩ = some (.string k) := x0
      obtain ⟨hgl, hgb⟩ := h4 g off rfl
      have HTR := Lib.hid h2
      have hkz := HKS.out k (HSUB.out k (List.mem_cons_self ..))
      have hr : r.length + 1 ≤ c := h3
      by_cases hc1 : c = 1
      · subst hc1
        obtain rfl : r = [] := List.length_eq_zero_iff.1 (by omega)
        obtain ⟨w2, hw2⟩ : ∃ w2, w2 = wr.setCell ⟨b, 1, none⟩ (.slice (some ⟨g, off, none⟩) 0 (0)) := ⟨_, rfl⟩
        have K2 : Hid (Kept (· = b) w w2) := by rw [hw2]; exact HK.out.setCell (p := ⟨b, 1, none⟩) (.inl rfl) _
        have KR : Hid (Kept (· = b) wr w2) := by rw [hw2]; exact (Kept.refl (· = b) wr).setCell (p := ⟨b, 1, none⟩) (.inl rfl) _
        have h12 : w2.heap[b]? = some (.cells #[.pointer (some ⟨p.b, 0, none⟩), .slice (some ⟨g, off, none⟩) 0 (0)] 119 (0, 0)) := by
          rw [hw2]; exact heap_setCell_same _ _ 1 _ _ _ H1.out
        have W2 : Hid (Wk w2 wl b p.b ([] : List ByteArray)) := ⟨_, _, h12, ⟨rfl, .inl (by omega)⟩, by omega, fun g' off' e => by injection e with e; injection e with e _; subst e; exact ⟨hgl, hgb⟩, h5⟩
        have L2 : Hid (Live w2 lo p k0 k1 m) := HL.out.kept K2.out (fun j hj e => HNB.out (e ▸ hj)) (fun e => by omega)
        have HGE := Lib.hid (get_any p k0 k1 m k hkz w2 L2.out.at_ L2.out.inv)
        have d0 : w2.cell? ⟨b, 0, none⟩ = some (.pointer (some ⟨p.b, 0, none⟩)) := by unfold World.cell?; simp [h12]
        have HW2 := Lib.hid hw2
        have hm1 : aheadOf b wr = 1 := by unfold aheadOf; rw [c1]; rfl
        have HM1 := Lib.hid hm1
        clear hc x0 h2 h12 hw2 hgb hkz hm1
        go_upto_region 4 with fail
        rw [← HW2.out]
        cases hg : (getV (hashN k0 k1) m k).2 with
        | true =>
          rw [hg] at HGE
          have HNE : Hid ((k, (getV (hashN k0 k1) m k).1, true) = (nextL (hashN k0 k1) m l).1 ∧ ([] : List ByteArray) = (nextL (hashN k0 k1) m l).2) := by
            have := HN.out
            constructor
            · rw [← this]; unfold nextL; rw [if_pos hg]
            · rw [← this]; unfold nextL; rw [if_pos hg]
          clear hg
          go_wp2_with fail
          refine HGE.out.mono ?_
          rintro e w3 ⟨rfl, hb3⟩
          have HB3 := Lib.hid hb3
          clear hb3
          go_wp2
          refine bodyPost_ret (v := .tuple #[.string k, val (getV (hashN k0 k1) m k).1, .bool true]) ?_ rfl ⟨?_, ?_, K2.out.bl HB3.out K2.out.size⟩
          · simp [results, Tryd.results27, go_sem]
          · rw [← HNE.out.1]
          · rw [← HNE.out.2]; exact W2.out.below HB3.out
        | false =>
          rw [hg] at HGE
          have HNE : Hid (nextL (hashN k0 k1) m ([] : List ByteArray) = nextL (hashN k0 k1) m l) := by
            have := HN.out
            show _ = _
            rw [← this]
            conv => rhs; unfold nextL
            rw [if_neg (by rw [hg]; decide)]
          clear hg
          go_wp2_with fail
          refine HGE.out.mono ?_
          rintro e w3 ⟨rfl, hb3⟩
          have HB3 := Lib.hid hb3
          have W3 : Hid (Wk w3 wl b p.b ([] : List ByteArray)) := W2.out.below HB3.out
          have hm3 : aheadOf b w3 = 0 := by
            obtain ⟨a', c', h, _⟩ := W3.out
            have : w3.cell? ⟨b, 1, none⟩ = some (.slice a' 0 c') := by unfold World.cell?; simp [h]
            unfold aheadOf; rw [this]
          have HM3 := Lib.hid hm3
          clear hb3 hm3
          go_wp2
          go_roundw
          case rel => exact ⟨rfl, ([] : List ByteArray), W3.out, HNE.out, fun u hu => HSUB.out u (List.mem_cons_of_mem _ hu), K2.out.bl HB3.out K2.out.size⟩
          case measure => rw [HM1.out, HM3.out]; omega
      · have hc1' : (c == 1) = false := by simpa using hc1
        obtain ⟨w2, hw2⟩ : ∃ w2, w2 = wr.setCell ⟨b, 1, none⟩ (.slice (some ⟨g, off + 1, none⟩) r.length (c - 1)) := ⟨_, rfl⟩
        have K2 : Hid (Kept (· = b) w w2) := by rw [hw2]; exact HK.out.setCell (p := ⟨b, 1, none⟩) (.inl rfl) _
        have KR : Hid (Kept (· = b) wr w2) := by rw [hw2]; exact (Kept.refl (· = b) wr).setCell (p := ⟨b, 1, none⟩) (.inl rfl) _
        have h12 : w2.heap[b]? = some (.cells #[.pointer (some ⟨p.b, 0, none⟩), .slice (some ⟨g, off + 1, none⟩) r.length (c - 1)] 119 (0, 0)) := by
          rw [hw2]; exact heap_setCell_same _ _ 1 _ _ _ H1.out
        have W2 : Hid (Wk w2 wl b p.b r) := ⟨_, _, h12, (HTR.out.drop).kept KR.out (fun b' off' e => by injection e with e; injection e with e _; subst e; exact hgb), by omega, fun g' off' e => by injection e with e; injection e with e _; subst e; exact ⟨hgl, hgb⟩, h5⟩
        have L2 : Hid (Live w2 lo p k0 k1 m) := HL.out.kept K2.out (fun j hj e => HNB.out (e ▸ hj)) (fun e => by omega)
        have HGE := Lib.hid (get_any p k0 k1 m k hkz w2 L2.out.at_ L2.out.inv)
        have d0 : w2.cell? ⟨b, 0, none⟩ = some (.pointer (some ⟨p.b, 0, none⟩)) := by unfold World.cell?; simp [h12]
        have hlen : (1 : Int) ≤ (r.length : Int) + 1 := by omega
        have hcc2 : (r.length : Int) + 1 ≤ (c : Int) := by omega
        have HW2 := Lib.hid hw2
        have hm1 : aheadOf b wr = r.length + 1 := by unfold aheadOf; rw [c1]; rfl
        have HM1 := Lib.hid hm1
        clear hc x0 h2 h12 hw2 hgb hkz hm1
        go_upto_region 4 with fail
        rw [← HW2.out]
        cases hg : (getV (hashN k0 k1) m k).2 with
        | true =>
          rw [hg] at HGE
          have HNE : Hid ((k, (getV (hashN k0 k1) m k).1, true) = (nextL (hashN k0 k1) m l).1 ∧ r = (nextL (hashN k0 k1) m l).2) := by
            have := HN.out
            constructor
            · rw [← this]; unfold nextL; rw [if_pos hg]
            · rw [← this]; unfold nextL; rw [if_pos hg]
          clear hg
          go_wp2_with fail
          refine HGE.out.mono ?_
          rintro e w3 ⟨rfl, hb3⟩
          have HB3 := Lib.hid hb3
          clear hb3
          go_wp2
          refine bodyPost_ret (v := .tuple #[.string k, val (getV (hashN k0 k1) m k).1, .bool true]) ?_ rfl ⟨?_, ?_, K2.out.bl HB3.out K2.out.size⟩
          · simp [results, Tryd.results27, go_sem]
          · rw [← HNE.out.1]
          · rw [← HNE.out.2]; exact W2.out.below HB3.out
        | false =>
          rw [hg] at HGE
          have HNE : Hid (nextL (hashN k0 k1) m r = nextL (hashN k0 k1) m l) := by
            have := HN.out
            show _ = _
            rw [← this]
            conv => rhs; unfold nextL
            rw [if_neg (by rw [hg]; decide)]
          clear hg
          go_wp2_with fail
          refine HGE.out.mono ?_
          rintro e w3 ⟨rfl, hb3⟩
          have HB3 := Lib.hid hb3
          have W3 : Hid (Wk w3 wl b p.b r) := W2.out.below HB3.out
          have hm3 : aheadOf b w3 = r.length := by
            obtain ⟨a', c', h, _⟩ := W3.out
            have : w3.cell? ⟨b, 1, none⟩ = some (.slice a' r.length c') := by unfold World.cell?; simp [h]
            unfold aheadOf; rw [this]
          have HM3 := Lib.hid hm3
          clear hb3 hm3
          go_wp2
          go_roundw
          case rel => exact ⟨rfl, r, W3.out, HNE.out, fun u hu => HSUB.out u (List.mem_cons_of_mem _ hu), K2.out.bl HB3.out K2.out.size⟩
          case measure => rw [HM1.out, HM3.out]; omega
end Go.Proofs.YtcooapflofiolaaDoor.MS

/- The walk through a map of texts, its blocks told by a predicate (a program made this out of WkS). -/
namespace Go.Proofs.YtcooapflofiolaaDoor.MS
open Go Go.RowKit Go.Shelf
set_option linter.unusedVariables false
set_option linter.unusedSimpArgs false
set_option maxRecDepth 100000
set_option maxHeartbeats 4000000
/-- A walk in memory: the map it goes through, and the keys that are ahead; all of it at or above a block. -/
def Wr (w : World) (R : Nat → Prop) (b : Nat) (pb : Nat) (l : List ByteArray) : Prop := ∃ a c, w.heap[b]? = some (.cells #[.pointer (some ⟨pb, 0, none⟩), .slice a l.length c] 119 (0, 0)) ∧ TR w a l.length l ∧ l.length ≤ c ∧ (∀ g off, a = some ⟨g, off, none⟩ → R g ∧ g ≠ b) ∧ R b
theorem Wr.kept {w w' : World} {S : Nat → Prop} {R : Nat → Prop} {b pb : Nat} {l : List ByteArray} (h : Wr w R b pb l) (hk : Kept S w w') (hs : ∀ j, R j → ¬ S j) : Wr w' R b pb l := by
  obtain ⟨a, c, h1, h2, h3, h4, h5⟩ := h
  exact ⟨a, c, (hk.block b (Array.getElem?_eq_some_iff.1 h1).1 (hs b h5)).trans h1, h2.kept hk (fun g off e => hs g (h4 g off e).1), h3, h4, h5⟩
theorem Wr.below {w w' : World} {R : Nat → Prop} {b pb : Nat} {l : List ByteArray} (h : Wr w R b pb l) (hb : Below w.heap.size w w') : Wr w' R b pb l :=
  h.kept (Kept.of (S := fun _ => False) hb (Nat.le_refl _)) (fun _ _ h => h)
theorem wnew_r (p : Pl) (k0 k1 : BitVec 64) (m : Mp VT) (w : World) (h : At w p k0 k1 m) (I : MInv (hashN k0 k1) m) :
    Calls Tryd.prog 24 #[.pointer (some ⟨p.b, 0, none⟩)] w fun e w' => ∃ b, e = .returned (.pointer (some ⟨b, 0, none⟩)) ∧ Wr w' (fun j => w.heap.size ≤ j ∧ j < w'.heap.size) b p.b (keysL m) ∧ Below w.heap.size w w' := by
  have HK := Lib.hid (keys_any p k0 k1 m w h I)
  have HKL : Hid ((keysL m).length = m.n) := by show _ = _; unfold keysL; rw [List.length_map, full_len I]
  clear h I
  go_enter Tryd.func24, Tryd.ntmps24
  go_wp2_with fail
  refine HK.out.mono ?_
  rintro e w1 ⟨v, rfl, hv, hb⟩
  obtain ⟨a, c, rfl, hc⟩ := own_val hv
  have HV := Lib.hid hv
  have HB := Lib.hid hb
  clear hv hb
  go_wp2
  go_ret
  refine ⟨w1.heap.size, rfl, ⟨a, c, by rw [HKL.out]; exact heap_alloc_new w1 _, ?_, by rw [HKL.out]; exact hc, ?_, ⟨HB.out.size, by simp⟩⟩, HB.out.alloc HB.out.size _⟩
  · rw [HKL.out]
    refine ⟨HKL.out, ?_⟩
    rcases Nat.eq_zero_or_pos m.n with h0 | h0
    · exact .inl h0
    · obtain ⟨g, cap, e, _, _, hg, hcell⟩ := own_read HV.out h0
      injection e with e1 _ _
      subst e1
      refine .inr ⟨g, 0, rfl, fun j hj => ?_⟩
      have hj' : j < (keysL m).length := by rw [HKL.out]; exact hj
      have := hcell j (.string ((keysL m).getD j default)) (by simp [textsV, hj'])
      rw [Nat.zero_add]
      exact low_cell ((Below.refl _ w1).alloc (Nat.le_refl _) _) (Nat.le_refl _) this
  · intro g off e
    rcases HV.out.2 with ⟨h1, _⟩ | ⟨g', cap, cur, h1, h2, h3, h4⟩
    · injection h1 with h1 _ _; rw [h1] at e; cases e
    · injection h1 with h1 _ _
      rw [h1] at e
      injection e with e
      injection e with e _
      subst e
      have := (Array.getElem?_eq_some_iff.1 h3).1
      exact ⟨⟨h2, by simp; omega⟩, Nat.ne_of_lt this⟩
theorem left_r (R : Nat → Prop) (b pb : Nat) (l : List ByteArray) (w : World) (h : Wr w R b pb l) :
    Calls Tryd.prog 29 #[.pointer (some ⟨b, 0, none⟩)] w fun e w' => e = .returned (.int .i64 (l.length : Nat)) ∧ w = w' := by
  obtain ⟨a, c, h1, _⟩ := h
  have c1 : w.cell? ⟨b, 1, none⟩ = some (.slice a l.length c) := by unfold World.cell?; simp [h1]
  clear h1
  go_enter Tryd.func29, Tryd.ntmps29
  go_wp2
  go_ret
  exact ⟨rfl, rfl⟩
theorem next_r (p : Pl) (k0 k1 : BitVec 64) (m : Mp VT) (b : Nat) (l : List ByteArray) (w : World) (lo : Nat) (h : Live w lo p k0 k1 m) (R : Nat → Prop) (hw : Wr w R b p.b l) (hk : ∀ k, k ∈ l → k.size ≤ maxLen) (hb : ¬ p.own b) (h0 : 0 < b) :
    Calls Tryd.prog 27 #[.pointer (some ⟨b, 0, none⟩)] w fun e w' => e = .returned (.tuple #[.string (nextL (hashN k0 k1) m l).1.1, val (nextL (hashN k0 k1) m l).1.2.1, .bool (nextL (hashN k0 k1) m l).1.2.2]) ∧ Wr w' R b p.b (nextL (hashN k0 k1) m l).2 ∧ Kept (· = b) w w' := by
  have HL := Lib.hid h
  have HW := Lib.hid hw
  have HKS := Lib.hid hk
  have HNB := Lib.hid hb
  clear h hw hk hb
  go_enter Tryd.func27, Tryd.ntmps27
  go_wp2
  go_loopw [3] (fun s wr => s = .string ByteArray.empty ∧ ∃ l', Wr wr R b p.b l' ∧ nextL (hashN k0 k1) m l' = nextL (hashN k0 k1) m l ∧ (∀ k, k ∈ l' → k ∈ l) ∧ Kept (· = b) w wr) (fun _ wr => aheadOf b wr)
  case atStart => exact ⟨rfl, l, HW.out, rfl, fun k h => h, Kept.refl _ _⟩
  case round =>
    obtain ⟨rfl, l', hw', hn, hsub, hK⟩ := hrel
    have HN := Lib.hid hn
    have HSUB := Lib.hid hsub
    have HK := Lib.hid hK
    obtain ⟨a, c, h1, h2, h3, h4, h5⟩ := hw'
    have c0 : wr.cell? ⟨b, 0, none⟩ = some (.pointer (some ⟨p.b, 0, none⟩)) := by unfold World.cell?; simp [h1]
    have c1 : wr.cell? ⟨b, 1, none⟩ = some (.slice a l'.length c) := by unfold World.cell?; simp [h1]
    have f1 : wr.frozen? ⟨b, 1, none⟩ = false := frozen_cells h1
    have H1 := Lib.hid h1
    clear hn hsub hK h1
    cases l' with
    | nil =>
      have HNE : Hid ((ByteArray.empty, default, false) = (nextL (hashN k0 k1) m l).1 ∧ ([] : List ByteArray) = (nextL (hashN k0 k1) m l).2) := by
        have := HN.out
        constructor
        · rw [← this]; rfl
        · rw [← this]; rfl
      have HW2 : Hid (Wr wr R b p.b []) := ⟨a, c, H1.out, h2, h3, h4, h5⟩
      clear h2 h3 h4
      go_wp2
      refine bodyPost_ret (v := .tuple #[.string ByteArray.empty, val default, .bool false]) ?_ rfl ⟨?_, ?_, HK.out⟩
      · simp [results, Tryd.results27, go_sem]; exact ⟨rfl, rfl⟩
      · rw [← HNE.out.1]
      · rw [← HNE.out.2]; exact HW2.out
    | cons k r =>
      obtain ⟨g, off, rfl, hc⟩ := h2.2.resolve_left (by simp)
      have x0 := hc 0 (by simp)
      rw [Nat.add_zero] at x0
      have x0' : wr.cell? ⟨g, off, none⟩ = some (.string k) := x0
      obtain ⟨hgl, hgb⟩ := h4 g off rfl
      have HTR := Lib.hid h2
      have hkz := HKS.out k (HSUB.out k (List.mem_cons_self ..))
      have hr : r.length + 1 ≤ c := h3
      by_cases hc1 : c = 1
      · subst hc1
        obtain rfl : r = [] := List.length_eq_zero_iff.1 (by omega)
        obtain ⟨w2, hw2⟩ : ∃ w2, w2 = wr.setCell ⟨b, 1, none⟩ (.slice (some ⟨g, off, none⟩) 0 (0)) := ⟨_, rfl⟩
        have K2 : Hid (Kept (· = b) w w2) := by rw [hw2]; exact HK.out.setCell (p := ⟨b, 1, none⟩) (.inl rfl) _
        have KR : Hid (Kept (· = b) wr w2) := by rw [hw2]; exact (Kept.refl (· = b) wr).setCell (p := ⟨b, 1, none⟩) (.inl rfl) _
        have h12 : w2.heap[b]? = some (.cells #[.pointer (some ⟨p.b, 0, none⟩), .slice (some ⟨g, off, none⟩) 0 (0)] 119 (0, 0)) := by
          rw [hw2]; exact heap_setCell_same _ _ 1 _ _ _ H1.out
        have W2 : Hid (Wr w2 R b p.b ([] : List ByteArray)) := ⟨_, _, h12, ⟨rfl, .inl (by omega)⟩, by omega, fun g' off' e => by injection e with e; injection e with e _; subst e; exact ⟨hgl, hgb⟩, h5⟩
        have L2 : Hid (Live w2 lo p k0 k1 m) := HL.out.kept K2.out (fun j hj e => HNB.out (e ▸ hj)) (fun e => by omega)
        have HGE := Lib.hid (get_any p k0 k1 m k hkz w2 L2.out.at_ L2.out.inv)
        have d0 : w2.cell? ⟨b, 0, none⟩ = some (.pointer (some ⟨p.b, 0, none⟩)) := by unfold World.cell?; simp [h12]
        have HW2 := Lib.hid hw2
        have hm1 : aheadOf b wr = 1 := by unfold aheadOf; rw [c1]; rfl
        have HM1 := Lib.hid hm1
        clear hc x0 h2 h12 hw2 hgb hkz hm1
        go_upto_region 4 with fail
        rw [← HW2.out]
        cases hg : (getV (hashN k0 k1) m k).2 with
        | true =>
          rw [hg] at HGE
          have HNE : Hid ((k, (getV (hashN k0 k1) m k).1, true) = (nextL (hashN k0 k1) m l).1 ∧ ([] : List ByteArray) = (nextL (hashN k0 k1) m l).2) := by
            have := HN.out
            constructor
            · rw [← this]; unfold nextL; rw [if_pos hg]
            · rw [← this]; unfold nextL; rw [if_pos hg]
          clear hg
          go_wp2_with fail
          refine HGE.out.mono ?_
          rintro e w3 ⟨rfl, hb3⟩
          have HB3 := Lib.hid hb3
          clear hb3
          go_wp2
          refine bodyPost_ret (v := .tuple #[.string k, val (getV (hashN k0 k1) m k).1, .bool true]) ?_ rfl ⟨?_, ?_, K2.out.bl HB3.out K2.out.size⟩
          · simp [results, Tryd.results27, go_sem]
          · rw [← HNE.out.1]
          · rw [← HNE.out.2]; exact W2.out.below HB3.out
        | false =>
          rw [hg] at HGE
          have HNE : Hid (nextL (hashN k0 k1) m ([] : List ByteArray) = nextL (hashN k0 k1) m l) := by
            have := HN.out
            show _ = _
            rw [← this]
            conv => rhs; unfold nextL
            rw [if_neg (by rw [hg]; decide)]
          clear hg
          go_wp2_with fail
          refine HGE.out.mono ?_
          rintro e w3 ⟨rfl, hb3⟩
          have HB3 := Lib.hid hb3
          have W3 : Hid (Wr w3 R b p.b ([] : List ByteArray)) := W2.out.below HB3.out
          have hm3 : aheadOf b w3 = 0 := by
            obtain ⟨a', c', h, _⟩ := W3.out
            have : w3.cell? ⟨b, 1, none⟩ = some (.slice a' 0 c') := by unfold World.cell?; simp [h]
            unfold aheadOf; rw [this]
          have HM3 := Lib.hid hm3
          clear hb3 hm3
          go_wp2
          go_roundw
          case rel => exact ⟨rfl, ([] : List ByteArray), W3.out, HNE.out, fun u hu => HSUB.out u (List.mem_cons_of_mem _ hu), K2.out.bl HB3.out K2.out.size⟩
          case measure => rw [HM1.out, HM3.out]; omega
      · have hc1' : (c == 1) = false := by simpa using hc1
        obtain ⟨w2, hw2⟩ : ∃ w2, w2 = wr.setCell ⟨b, 1, none⟩ (.slice (some ⟨g, off + 1, none⟩) r.length (c - 1)) := ⟨_, rfl⟩
        have K2 : Hid (Kept (· = b) w w2) := by rw [hw2]; exact HK.out.setCell (p := ⟨b, 1, none⟩) (.inl rfl) _
        have KR : Hid (Kept (· = b) wr w2) := by rw [hw2]; exact (Kept.refl (· = b) wr).setCell (p := ⟨b, 1, none⟩) (.inl rfl) _
        have h12 : w2.heap[b]? = some (.cells #[.pointer (some ⟨p.b, 0, none⟩), .slice (some ⟨g, off + 1, none⟩) r.length (c - 1)] 119 (0, 0)) := by
          rw [hw2]; exact heap_setCell_same _ _ 1 _ _ _ H1.out
        have W2 : Hid (Wr w2 R b p.b r) := ⟨_, _, h12, (HTR.out.drop).kept KR.out (fun b' off' e => by injection e with e; injection e with e _; subst e; exact hgb), by omega, fun g' off' e => by injection e with e; injection e with e _; subst e; exact ⟨hgl, hgb⟩, h5⟩
        have L2 : Hid (Live w2 lo p k0 k1 m) := HL.out.kept K2.out (fun j hj e => HNB.out (e ▸ hj)) (fun e => by omega)
        have HGE := Lib.hid (get_any p k0 k1 m k hkz w2 L2.out.at_ L2.out.inv)
        have d0 : w2.cell? ⟨b, 0, none⟩ = some (.pointer (some ⟨p.b, 0, none⟩)) := by unfold World.cell?; simp [h12]
        have hlen : (1 : Int) ≤ (r.length : Int) + 1 := by omega
        have hcc2 : (r.length : Int) + 1 ≤ (c : Int) := by omega
        have HW2 := Lib.hid hw2
        have hm1 : aheadOf b wr = r.length + 1 := by unfold aheadOf; rw [c1]; rfl
        have HM1 := Lib.hid hm1
        clear hc x0 h2 h12 hw2 hgb hkz hm1
        go_upto_region 4 with fail
        rw [← HW2.out]
        cases hg : (getV (hashN k0 k1) m k).2 with
        | true =>
          rw [hg] at HGE
          have HNE : Hid ((k, (getV (hashN k0 k1) m k).1, true) = (nextL (hashN k0 k1) m l).1 ∧ r = (nextL (hashN k0 k1) m l).2) := by
            have := HN.out
            constructor
            · rw [← this]; unfold nextL; rw [if_pos hg]
            · rw [← this]; unfold nextL; rw [if_pos hg]
          clear hg
          go_wp2_with fail
          refine HGE.out.mono ?_
          rintro e w3 ⟨rfl, hb3⟩
          have HB3 := Lib.hid hb3
          clear hb3
          go_wp2
          refine bodyPost_ret (v := .tuple #[.string k, val (getV (hashN k0 k1) m k).1, .bool true]) ?_ rfl ⟨?_, ?_, K2.out.bl HB3.out K2.out.size⟩
          · simp [results, Tryd.results27, go_sem]
          · rw [← HNE.out.1]
          · rw [← HNE.out.2]; exact W2.out.below HB3.out
        | false =>
          rw [hg] at HGE
          have HNE : Hid (nextL (hashN k0 k1) m r = nextL (hashN k0 k1) m l) := by
            have := HN.out
            show _ = _
            rw [← this]
            conv => rhs; unfold nextL
            rw [if_neg (by rw [hg]; decide)]
          clear hg
          go_wp2_with fail
          refine HGE.out.mono ?_
          rintro e w3 ⟨rfl, hb3⟩
          have HB3 := Lib.hid hb3
          have W3 : Hid (Wr w3 R b p.b r) := W2.out.below HB3.out
          have hm3 : aheadOf b w3 = r.length := by
            obtain ⟨a', c', h, _⟩ := W3.out
            have : w3.cell? ⟨b, 1, none⟩ = some (.slice a' r.length c') := by unfold World.cell?; simp [h]
            unfold aheadOf; rw [this]
          have HM3 := Lib.hid hm3
          clear hb3 hm3
          go_wp2
          go_roundw
          case rel => exact ⟨rfl, r, W3.out, HNE.out, fun u hu => HSUB.out u (List.mem_cons_of_mem _ hu), K2.out.bl HB3.out K2.out.size⟩
          case measure => rw [HM1.out, HM3.out]; omega
end Go.Proofs.YtcooapflofiolaaDoor.MS

/- The document's map: Get. -/
namespace Go.Proofs.YtcooapflofiolaaDoor.RM
open Go Go.RowKit Go.Shelf
set_option linter.unusedVariables false
set_option linter.unusedSimpArgs false
set_option maxRecDepth 100000
set_option maxHeartbeats 4000000
theorem get_any (p : Pl) (k0 k1 : BitVec 64) (m : Mp ByteArray) (key : ByteArray) (hks : key.size ≤ maxLen) (w : World) (h : At w p k0 k1 m) (I : MInv (hashN k0 k1) m) :
    Calls Tryd.prog 52 #[.pointer (some ⟨p.b, 0, none⟩), .string key] w fun e w' => e = .returned (.tuple #[.string (MS.getV (hashN k0 k1) m key).1, .bool (MS.getV (hashN k0 k1) m key).2]) ∧ Below w.heap.size w w' := by
  have HFi := Lib.hid (find_any p k0 k1 m key hks w h I)
  have HA := Lib.hid h
  have HI := Lib.hid I
  clear h I hks
  cases hf : find (hashN k0 k1) m key with
  | none =>
    have HV : Hid (MS.getV (hashN k0 k1) m key = (ByteArray.empty, false)) := by show _ = _; unfold MS.getV; rw [hf]; rfl
    rw [hf] at HFi
    clear hf
    go_enter Tryd.func52, Tryd.ntmps52
    go_wp2_with fail
    refine HFi.out.mono ?_
    rintro e w1 ⟨rfl, hb⟩
    have HB := Lib.hid hb
    clear hb
    rw [show toI none = -1 from rfl]
    go_wp2
    go_ret2
    rw [HV.out]
    exact ⟨rfl, HB.out⟩
  | some i =>
    obtain ⟨hi, _, hk⟩ := find_some HI.out hf
    have HV : Hid (MS.getV (hashN k0 k1) m key = ((m.s i).2, true)) := by show _ = _; unfold MS.getV; rw [hf]
    rw [hf] at HFi
    clear hf hk
    go_enter Tryd.func52, Tryd.ntmps52
    go_wp2_with fail
    refine HFi.out.mono ?_
    rintro e w1 ⟨rfl, hb⟩
    have A1 := Lib.hid (HA.out.below (Nat.le_refl _) hb)
    have HB := Lib.hid hb
    have c3 := A1.out.c3
    have sv := A1.out.sv hi
    have hi' : (i : Int) < 8 * (m.ws.length : Int) := by omega
    clear hb
    rw [show toI (some i) = (i : Int) from rfl]
    go_wp2
    go_ret2
    rw [HV.out]
    exact ⟨rfl, HB.out⟩
end Go.Proofs.YtcooapflofiolaaDoor.RM

/- The document's walk: New, Next (a program made this out of WkR). -/
namespace Go.Proofs.YtcooapflofiolaaDoor.RM
open Go Go.RowKit Go.Shelf
set_option linter.unusedVariables false
set_option linter.unusedSimpArgs false
set_option maxRecDepth 100000
set_option maxHeartbeats 4000000
/-- A walk in memory: the map it goes through, and the keys that are ahead; all of it at or above a block. -/
def Wq (w : World) (R : Nat → Prop) (b : Nat) (pb : Nat) (l : List ByteArray) : Prop := ∃ a c, w.heap[b]? = some (.cells #[.pointer (some ⟨pb, 0, none⟩), .slice a l.length c] 55 (0, 0)) ∧ TR w a l.length l ∧ l.length ≤ c ∧ (∀ g off, a = some ⟨g, off, none⟩ → R g ∧ g ≠ b) ∧ R b
theorem Wq.kept {w w' : World} {S : Nat → Prop} {R : Nat → Prop} {b pb : Nat} {l : List ByteArray} (h : Wq w R b pb l) (hk : Kept S w w') (hs : ∀ j, R j → ¬ S j) : Wq w' R b pb l := by
  obtain ⟨a, c, h1, h2, h3, h4, h5⟩ := h
  exact ⟨a, c, (hk.block b (Array.getElem?_eq_some_iff.1 h1).1 (hs b h5)).trans h1, h2.kept hk (fun g off e => hs g (h4 g off e).1), h3, h4, h5⟩
theorem Wq.below {w w' : World} {R : Nat → Prop} {b pb : Nat} {l : List ByteArray} (h : Wq w R b pb l) (hb : Below w.heap.size w w') : Wq w' R b pb l :=
  h.kept (Kept.of (S := fun _ => False) hb (Nat.le_refl _)) (fun _ _ h => h)
theorem qnew_any (p : Pl) (k0 k1 : BitVec 64) (m : Mp ByteArray) (w : World) (h : At w p k0 k1 m) (I : MInv (hashN k0 k1) m) :
    Calls Tryd.prog 25 #[.pointer (some ⟨p.b, 0, none⟩)] w fun e w' => ∃ b, e = .returned (.pointer (some ⟨b, 0, none⟩)) ∧ Wq w' (fun j => w.heap.size ≤ j ∧ j < w'.heap.size) b p.b (MS.keysL m) ∧ Below w.heap.size w w' := by
  have HK := Lib.hid (keys_any p k0 k1 m w h I)
  have HKL : Hid ((MS.keysL m).length = m.n) := by show _ = _; unfold MS.keysL; rw [List.length_map, full_len I]
  clear h I
  go_enter Tryd.func25, Tryd.ntmps25
  go_wp2_with fail
  refine HK.out.mono ?_
  rintro e w1 ⟨v, rfl, hv, hb⟩
  obtain ⟨a, c, rfl, hc⟩ := own_val hv
  have HV := Lib.hid hv
  have HB := Lib.hid hb
  clear hv hb
  go_wp2
  go_ret
  refine ⟨w1.heap.size, rfl, ⟨a, c, by rw [HKL.out]; exact heap_alloc_new w1 _, ?_, by rw [HKL.out]; exact hc, ?_, ⟨HB.out.size, by simp⟩⟩, HB.out.alloc HB.out.size _⟩
  · rw [HKL.out]
    refine ⟨HKL.out, ?_⟩
    rcases Nat.eq_zero_or_pos m.n with h0 | h0
    · exact .inl h0
    · obtain ⟨g, cap, e, _, _, hg, hcell⟩ := own_read HV.out h0
      injection e with e1 _ _
      subst e1
      refine .inr ⟨g, 0, rfl, fun j hj => ?_⟩
      have hj' : j < (MS.keysL m).length := by rw [HKL.out]; exact hj
      have := hcell j (.string ((MS.keysL m).getD j default)) (by simp [textsV, hj'])
      rw [Nat.zero_add]
      exact low_cell ((Below.refl _ w1).alloc (Nat.le_refl _) _) (Nat.le_refl _) this
  · intro g off e
    rcases HV.out.2 with ⟨h1, _⟩ | ⟨g', cap, cur, h1, h2, h3, h4⟩
    · injection h1 with h1 _ _; rw [h1] at e; cases e
    · injection h1 with h1 _ _
      rw [h1] at e
      injection e with e
      injection e with e _
      subst e
      have := (Array.getElem?_eq_some_iff.1 h3).1
      exact ⟨⟨h2, by simp; omega⟩, Nat.ne_of_lt this⟩
theorem qnext_any (p : Pl) (k0 k1 : BitVec 64) (m : Mp ByteArray) (b : Nat) (l : List ByteArray) (w : World) (lo : Nat) (h : Live w lo p k0 k1 m) (R : Nat → Prop) (hw : Wq w R b p.b l) (hk : ∀ k, k ∈ l → k.size ≤ maxLen) (hb : ¬ p.own b) (h0 : 0 < b) :
    Calls Tryd.prog 28 #[.pointer (some ⟨b, 0, none⟩)] w fun e w' => e = .returned (.tuple #[.string (MS.nextL (hashN k0 k1) m l).1.1, .string (MS.nextL (hashN k0 k1) m l).1.2.1, .bool (MS.nextL (hashN k0 k1) m l).1.2.2]) ∧ Wq w' R b p.b (MS.nextL (hashN k0 k1) m l).2 ∧ Kept (· = b) w w' := by
  have HL := Lib.hid h
  have HW := Lib.hid hw
  have HKS := Lib.hid hk
  have HNB := Lib.hid hb
  clear h hw hk hb
  go_enter Tryd.func28, Tryd.ntmps28
  go_wp2
  go_loopw [2] (fun s wr => s = .string ByteArray.empty ∧ ∃ l', Wq wr R b p.b l' ∧ MS.nextL (hashN k0 k1) m l' = MS.nextL (hashN k0 k1) m l ∧ (∀ k, k ∈ l' → k ∈ l) ∧ Kept (· = b) w wr) (fun _ wr => MS.aheadOf b wr)
  case atStart => exact ⟨rfl, l, HW.out, rfl, fun k h => h, Kept.refl _ _⟩
  case round =>
    obtain ⟨rfl, l', hw', hn, hsub, hK⟩ := hrel
    have HN := Lib.hid hn
    have HSUB := Lib.hid hsub
    have HK := Lib.hid hK
    obtain ⟨a, c, h1, h2, h3, h4, h5⟩ := hw'
    have c0 : wr.cell? ⟨b, 0, none⟩ = some (.pointer (some ⟨p.b, 0, none⟩)) := by unfold World.cell?; simp [h1]
    have c1 : wr.cell? ⟨b, 1, none⟩ = some (.slice a l'.length c) := by unfold World.cell?; simp [h1]
    have f1 : wr.frozen? ⟨b, 1, none⟩ = false := MS.frozen_cells h1
    have H1 := Lib.hid h1
    clear hn hsub hK h1
    cases l' with
    | nil =>
      have HNE : Hid ((ByteArray.empty, default, false) = (MS.nextL (hashN k0 k1) m l).1 ∧ ([] : List ByteArray) = (MS.nextL (hashN k0 k1) m l).2) := by
        have := HN.out
        constructor
        · rw [← this]; rfl
        · rw [← this]; rfl
      have HW2 : Hid (Wq wr R b p.b []) := ⟨a, c, H1.out, h2, h3, h4, h5⟩
      clear h2 h3 h4
      go_wp2
      refine bodyPost_ret (v := .tuple #[.string ByteArray.empty, .string default, .bool false]) ?_ rfl ⟨?_, ?_, HK.out⟩
      · simp [results, Tryd.results28, go_sem]; exact ⟨rfl, rfl⟩
      · rw [← HNE.out.1]
      · rw [← HNE.out.2]; exact HW2.out
    | cons k r =>
      obtain ⟨g, off, rfl, hc⟩ := h2.2.resolve_left (by simp)
      have x0 := hc 0 (by simp)
      rw [Nat.add_zero] at x0
      have x0' : wr.cell? ⟨g, off, none⟩ = some (.string k) := x0
      obtain ⟨hgl, hgb⟩ := h4 g off rfl
      have HTR := Lib.hid h2
      have hkz := HKS.out k (HSUB.out k (List.mem_cons_self ..))
      have hr : r.length + 1 ≤ c := h3
      by_cases hc1 : c = 1
      · subst hc1
        obtain rfl : r = [] := List.length_eq_zero_iff.1 (by omega)
        obtain ⟨w2, hw2⟩ : ∃ w2, w2 = wr.setCell ⟨b, 1, none⟩ (.slice (some ⟨g, off, none⟩) 0 (0)) := ⟨_, rfl⟩
        have K2 : Hid (Kept (· = b) w w2) := by rw [hw2]; exact HK.out.setCell (p := ⟨b, 1, none⟩) (.inl rfl) _
        have KR : Hid (Kept (· = b) wr w2) := by rw [hw2]; exact (Kept.refl (· = b) wr).setCell (p := ⟨b, 1, none⟩) (.inl rfl) _
        have h12 : w2.heap[b]? = some (.cells #[.pointer (some ⟨p.b, 0, none⟩), .slice (some ⟨g, off, none⟩) 0 (0)] 55 (0, 0)) := by
          rw [hw2]; exact heap_setCell_same _ _ 1 _ _ _ H1.out
        have W2 : Hid (Wq w2 R b p.b ([] : List ByteArray)) := ⟨_, _, h12, ⟨rfl, .inl (by omega)⟩, by omega, fun g' off' e => by injection e with e; injection e with e _; subst e; exact ⟨hgl, hgb⟩, h5⟩
        have L2 : Hid (Live w2 lo p k0 k1 m) := HL.out.kept K2.out (fun j hj e => HNB.out (e ▸ hj)) 
        have HGE := Lib.hid (get_any p k0 k1 m k hkz w2 L2.out.at_ L2.out.inv)
        have d0 : w2.cell? ⟨b, 0, none⟩ = some (.pointer (some ⟨p.b, 0, none⟩)) := by unfold World.cell?; simp [h12]
        have HW2 := Lib.hid hw2
        have hm1 : MS.aheadOf b wr = 1 := by unfold MS.aheadOf; rw [c1]; rfl
        have HM1 := Lib.hid hm1
        clear hc x0 h2 h12 hw2 hgb hkz hm1
        go_upto_region 4 with fail
        rw [← HW2.out]
        cases hg : (MS.getV (hashN k0 k1) m k).2 with
        | true =>
          rw [hg] at HGE
          have HNE : Hid ((k, (MS.getV (hashN k0 k1) m k).1, true) = (MS.nextL (hashN k0 k1) m l).1 ∧ ([] : List ByteArray) = (MS.nextL (hashN k0 k1) m l).2) := by
            have := HN.out
            constructor
            · rw [← this]; unfold MS.nextL; rw [if_pos hg]
            · rw [← this]; unfold MS.nextL; rw [if_pos hg]
          clear hg
          go_wp2_with fail
          refine HGE.out.mono ?_
          rintro e w3 ⟨rfl, hb3⟩
          have HB3 := Lib.hid hb3
          clear hb3
          go_wp2
          refine bodyPost_ret (v := .tuple #[.string k, .string (MS.getV (hashN k0 k1) m k).1, .bool true]) ?_ rfl ⟨?_, ?_, K2.out.bl HB3.out K2.out.size⟩
          · simp [results, Tryd.results28, go_sem]
          · rw [← HNE.out.1]
          · rw [← HNE.out.2]; exact W2.out.below HB3.out
        | false =>
          rw [hg] at HGE
          have HNE : Hid (MS.nextL (hashN k0 k1) m ([] : List ByteArray) = MS.nextL (hashN k0 k1) m l) := by
            have := HN.out
            show _ = _
            rw [← this]
            conv => rhs; unfold MS.nextL
            rw [if_neg (by rw [hg]; decide)]
          clear hg
          go_wp2_with fail
          refine HGE.out.mono ?_
          rintro e w3 ⟨rfl, hb3⟩
          have HB3 := Lib.hid hb3
          have W3 : Hid (Wq w3 R b p.b ([] : List ByteArray)) := W2.out.below HB3.out
          have hm3 : MS.aheadOf b w3 = 0 := by
            obtain ⟨a', c', h, _⟩ := W3.out
            have : w3.cell? ⟨b, 1, none⟩ = some (.slice a' 0 c') := by unfold World.cell?; simp [h]
            unfold MS.aheadOf; rw [this]
          have HM3 := Lib.hid hm3
          clear hb3 hm3
          go_wp2
          go_roundw
          case rel => exact ⟨rfl, ([] : List ByteArray), W3.out, HNE.out, fun u hu => HSUB.out u (List.mem_cons_of_mem _ hu), K2.out.bl HB3.out K2.out.size⟩
          case measure => rw [HM1.out, HM3.out]; omega
      · have hc1' : (c == 1) = false := by simpa using hc1
        obtain ⟨w2, hw2⟩ : ∃ w2, w2 = wr.setCell ⟨b, 1, none⟩ (.slice (some ⟨g, off + 1, none⟩) r.length (c - 1)) := ⟨_, rfl⟩
        have K2 : Hid (Kept (· = b) w w2) := by rw [hw2]; exact HK.out.setCell (p := ⟨b, 1, none⟩) (.inl rfl) _
        have KR : Hid (Kept (· = b) wr w2) := by rw [hw2]; exact (Kept.refl (· = b) wr).setCell (p := ⟨b, 1, none⟩) (.inl rfl) _
        have h12 : w2.heap[b]? = some (.cells #[.pointer (some ⟨p.b, 0, none⟩), .slice (some ⟨g, off + 1, none⟩) r.length (c - 1)] 55 (0, 0)) := by
          rw [hw2]; exact heap_setCell_same _ _ 1 _ _ _ H1.out
        have W2 : Hid (Wq w2 R b p.b r) := ⟨_, _, h12, (HTR.out.drop).kept KR.out (fun b' off' e => by injection e with e; injection e with e _; subst e; exact hgb), by omega, fun g' off' e => by injection e with e; injection e with e _; subst e; exact ⟨hgl, hgb⟩, h5⟩
        have L2 : Hid (Live w2 lo p k0 k1 m) := HL.out.kept K2.out (fun j hj e => HNB.out (e ▸ hj)) 
        have HGE := Lib.hid (get_any p k0 k1 m k hkz w2 L2.out.at_ L2.out.inv)
        have d0 : w2.cell? ⟨b, 0, none⟩ = some (.pointer (some ⟨p.b, 0, none⟩)) := by unfold World.cell?; simp [h12]
        have hlen : (1 : Int) ≤ (r.length : Int) + 1 := by omega
        have hcc2 : (r.length : Int) + 1 ≤ (c : Int) := by omega
        have HW2 := Lib.hid hw2
        have hm1 : MS.aheadOf b wr = r.length + 1 := by unfold MS.aheadOf; rw [c1]; rfl
        have HM1 := Lib.hid hm1
        clear hc x0 h2 h12 hw2 hgb hkz hm1
        go_upto_region 4 with fail
        rw [← HW2.out]
        cases hg : (MS.getV (hashN k0 k1) m k).2 with
        | true =>
          rw [hg] at HGE
          have HNE : Hid ((k, (MS.getV (hashN k0 k1) m k).1, true) = (MS.nextL (hashN k0 k1) m l).1 ∧ r = (MS.nextL (hashN k0 k1) m l).2) := by
            have := HN.out
            constructor
            · rw [← this]; unfold MS.nextL; rw [if_pos hg]
            · rw [← this]; unfold MS.nextL; rw [if_pos hg]
          clear hg
          go_wp2_with fail
          refine HGE.out.mono ?_
          rintro e w3 ⟨rfl, hb3⟩
          have HB3 := Lib.hid hb3
          clear hb3
          go_wp2
          refine bodyPost_ret (v := .tuple #[.string k, .string (MS.getV (hashN k0 k1) m k).1, .bool true]) ?_ rfl ⟨?_, ?_, K2.out.bl HB3.out K2.out.size⟩
          · simp [results, Tryd.results28, go_sem]
          · rw [← HNE.out.1]
          · rw [← HNE.out.2]; exact W2.out.below HB3.out
        | false =>
          rw [hg] at HGE
          have HNE : Hid (MS.nextL (hashN k0 k1) m r = MS.nextL (hashN k0 k1) m l) := by
            have := HN.out
            show _ = _
            rw [← this]
            conv => rhs; unfold MS.nextL
            rw [if_neg (by rw [hg]; decide)]
          clear hg
          go_wp2_with fail
          refine HGE.out.mono ?_
          rintro e w3 ⟨rfl, hb3⟩
          have HB3 := Lib.hid hb3
          have W3 : Hid (Wq w3 R b p.b r) := W2.out.below HB3.out
          have hm3 : MS.aheadOf b w3 = r.length := by
            obtain ⟨a', c', h, _⟩ := W3.out
            have : w3.cell? ⟨b, 1, none⟩ = some (.slice a' r.length c') := by unfold World.cell?; simp [h]
            unfold MS.aheadOf; rw [this]
          have HM3 := Lib.hid hm3
          clear hb3 hm3
          go_wp2
          go_roundw
          case rel => exact ⟨rfl, r, W3.out, HNE.out, fun u hu => HSUB.out u (List.mem_cons_of_mem _ hu), K2.out.bl HB3.out K2.out.size⟩
          case measure => rw [HM1.out, HM3.out]; omega
end Go.Proofs.YtcooapflofiolaaDoor.RM

/- What SwissBounds needs of the plain map: the words' sums. -/
namespace Go.Proofs.YtcooapflofiolaaDoor
set_option linter.unusedSectionVars false
set_option linter.unusedVariables false
set_option linter.unusedSimpArgs false
theorem cnt_split (p : Nat → Bool) (a : Nat) : ∀ b, cnt p (a + b) = cnt p a + cnt (fun i => p (a + i)) b
  | 0 => rfl
  | b + 1 => by rw [← Nat.add_assoc, cnt, cnt, cnt_split p a b]; omega
theorem cntF_cnt (x : Nat) {p : Nat → Bool} (h : ∀ i, i < 8 → x.testBit i = p i) : cntF x = cnt p 8 := by
  unfold cntF; rw [cnt_filter]; exact cnt_congr h
section
variable {V : Type} [Inhabited V] {H : ByteArray → Nat} {m : Mp V}
def fulC (m : Mp V) (j : Nat) : Nat := cnt (fun i => decide (m.c i < 128)) (8 * j)
def freC (m : Mp V) (j : Nat) : Nat := cnt (fun i => m.c i == 128 || m.c i == 254) (8 * j)
def empC (m : Mp V) (j : Nat) : Nat := cnt (fun i => m.c i == 128) (8 * j)
theorem fulC_succ (m : Mp V) (j : Nat) : fulC m (j + 1) = fulC m j + cntF (ful (m.w j)) := by
  unfold fulC; rw [Nat.mul_add, Nat.mul_one, cnt_split, cntF_cnt (p := fun i => decide (m.c (8 * j + i) < 128)) _ (fun i hi => by rw [bit_ful _ _ hi, c_at m j hi])]
theorem freC_succ (m : Mp V) (j : Nat) : freC m (j + 1) = freC m j + cntF (fre (m.w j)) := by
  unfold freC; rw [Nat.mul_add, Nat.mul_one, cnt_split, cntF_cnt (p := fun i => m.c (8 * j + i) == 128 || m.c (8 * j + i) == 254) _ (fun i hi => by rw [bit_fre _ _ hi, c_at m j hi])]
theorem empC_succ (m : Mp V) (j : Nat) : empC m (j + 1) = empC m j + cntF (mch (m.w j) 128) := by
  unfold empC; rw [Nat.mul_add, Nat.mul_one, cnt_split, cntF_cnt (p := fun i => m.c (8 * j + i) == 128) _ (fun i hi => by rw [bit_mch _ _ _ hi, c_at m j hi])]
theorem sums_le (m : Mp V) (j : Nat) : fulC m j ≤ 8 * j ∧ freC m j ≤ 8 * j ∧ empC m j ≤ 8 * j := ⟨cnt_le _ _, cnt_le _ _, cnt_le _ _⟩
theorem cntF_le (x : Nat) : cntF x ≤ 8 := by
  unfold cntF; rw [cnt_filter]; exact cnt_le _ _
theorem sums_end (I : MInv H m) : fulC m m.ws.length = m.n ∧ freC m m.ws.length = empC m m.ws.length + m.tb := by
  refine ⟨I.cn.symm, ?_⟩
  unfold freC empC
  rw [I.ctb]
  refine cnt_add fun i _ => ?_
  show (m.c i == 128 || m.c i == 254).toNat = (m.c i == 128).toNat + (m.c i == 254).toNat
  by_cases h1 : m.c i = 128
  · rw [h1]; rfl
  · by_cases h2 : m.c i = 254
    · rw [h2]; rfl
    · rw [beq_false_of_ne h1, beq_false_of_ne h2]; rfl
end
end Go.Proofs.YtcooapflofiolaaDoor
namespace Go.Proofs.YtcooapflofiolaaDoor.MS
theorem key_at {w : World} {lo : Nat} {p : Pl} {k0 k1 : BitVec 64} {m : Mp VT} (h : Live w lo p k0 k1 m) {i : Nat} (hi : i < m.n) :
    ∃ s : ByteArray, (textsV (keysL m))[i]? = some (.string s) ∧ s = (keysL m).getD i default ∧ s.size ≤ maxLen ∧ (getV (hashN k0 k1) m s).2 = true ∧ Has m s (getV (hashN k0 k1) m s).1 := by
  have hl : (keysL m).length = m.n := by unfold keysL; rw [List.length_map, full_len h.inv]
  have hl2 : (fullL m).length = m.n := full_len h.inv
  have hi2 : i < (fullL m).length := by omega
  have hm : ((fullL m)[i].1, (fullL m)[i].2) ∈ fullL m := List.getElem_mem hi2
  have hh := mem_full.1 hm
  have hf := (find_has h.inv).1 ⟨_, hh⟩
  obtain ⟨x, hx⟩ := Option.ne_none_iff_exists'.1 hf
  have hg : getV (hashN k0 k1) m (fullL m)[i].1 = ((m.s x).2, true) := by unfold getV; rw [hx]
  refine ⟨(fullL m)[i].1, by simp [textsV, keysL, hi2], by simp [keysL, hi2], h.keys _ _ hh, by rw [hg], ?_⟩
  rw [hg]
  have := (find_val h.inv hx).1 hh
  rw [← this]; exact hh
theorem key_ne {w : World} {lo : Nat} {p : Pl} {k0 k1 : BitVec 64} {m : Mp VT} (h : Live w lo p k0 k1 m) {i j : Nat} (hi : i < m.n) (hj : j < i) : (keysL m).getD i default ≠ (keysL m).getD j default := by
  have hl2 : (fullL m).length = m.n := full_len h.inv
  have := List.pairwise_iff_getElem.1 (full_pair h.inv) j i (by omega) (by omega) hj
  intro e
  apply this
  have e1 : ∀ k (hk : k < (fullL m).length), (keysL m).getD k default = (fullL m)[k].1 := fun k hk => by simp [keysL, hk]
  rw [e1 i (by omega), e1 j (by omega)] at e
  exact e.symm
end Go.Proofs.YtcooapflofiolaaDoor.MS

/- lives of chapter 6: a walk over three keys. -/
namespace Go.Proofs.YtcooapflofiolaaDoor
section
variable {V : Type} [Inhabited V] {H : ByteArray → Nat} {m : Mp V}
set_option linter.unusedSectionVars false
theorem n_pos (I : MInv H m) {k : ByteArray} {v : V} (h : Has m k v) : 1 ≤ m.n := by
  rw [← full_len I]
  exact List.length_pos_of_mem (mem_full.2 h)
theorem put_n (I : MInv H m) (key : ByteArray) (v : V) (hn : m.n < 2000) : (put H m key v).n ≤ m.n + 1 ∧ 1 ≤ (put H m key v).n := by
  refine ⟨?_, n_pos (put_inv I key v) ((put_has I (.inl hn) key v).2 (by rw [if_pos rfl]))⟩
  cases hf : find H m key with
  | some x => rw [(put_some I hf).2.1]; omega
  | none => rw [(put_none I hf hn).2.1]; omega
end
end Go.Proofs.YtcooapflofiolaaDoor
namespace Go.Proofs.YtcooapflofiolaaDoor.MS
open Go Go.RowKit Go.Shelf
set_option linter.unusedVariables false
set_option linter.unusedSimpArgs false
set_option maxRecDepth 100000
set_option maxHeartbeats 4000000
section
variable {H : ByteArray → Nat} {m : Mp VT}
theorem getV_none (I : MInv H m) {k : ByteArray} (h : ∀ v, ¬ Has m k v) : (getV H m k).2 = false := by
  unfold getV
  cases hf : find H m k with
  | none => rfl
  | some x =>
    obtain ⟨v, hv⟩ := (find_has I).2 (by rw [hf]; simp)
    exact absurd hv (h v)
theorem nextL_none : ∀ {l : List ByteArray}, (∀ k, k ∈ l → (getV H m k).2 = false) → nextL H m l = ((ByteArray.empty, default, false), [])
  | [], _ => rfl
  | k :: r, h => by
    unfold nextL
    rw [if_neg (by rw [h k (List.mem_cons_self ..)]; decide)]
    exact nextL_none fun u hu => h u (List.mem_cons_of_mem _ hu)
theorem keysL_len (I : MInv H m) : (keysL m).length = m.n := by unfold keysL; rw [List.length_map, full_len I]
theorem mem_keysL {k : ByteArray} : k ∈ keysL m ↔ ∃ v, Has m k v := by
  unfold keysL
  rw [List.mem_map]
  constructor
  · rintro ⟨⟨k', v⟩, h, rfl⟩
    exact ⟨v, mem_full.1 h⟩
  · rintro ⟨v, h⟩
    exact ⟨(k, v), mem_full.2 h, rfl⟩
theorem keysL_nodup (I : MInv H m) : (keysL m).Nodup := by
  have := full_pair I
  unfold keysL List.Nodup
  rw [List.pairwise_map]
  exact this
theorem one_left (I : MInv H m) {m' : Mp VT} (I' : MInv H m') {k0 : ByteArray} (h0 : ∃ v, Has m k0 v) (h : ∀ k v, Has m' k v ↔ Has m k v ∧ k = k0) : m'.n = 1 := by
  obtain ⟨v, hv⟩ := h0
  have h1 := n_pos I' ((h k0 v).2 ⟨hv, rfl⟩)
  have hn := keysL_nodup I'
  have hl := keysL_len I'
  rcases hk : keysL m' with _ | ⟨a, _ | ⟨b, r⟩⟩
  · rw [hk] at hl; simp at hl; omega
  · rw [hk] at hl; simp at hl; omega
  · rw [hk] at hn
    have ha : a ∈ keysL m' := by rw [hk]; simp
    have hb : b ∈ keysL m' := by rw [hk]; simp
    obtain ⟨va, ha⟩ := mem_keysL.1 ha
    obtain ⟨vb, hb⟩ := mem_keysL.1 hb
    have e1 := ((h _ _).1 ha).2
    have e2 := ((h _ _).1 hb).2
    subst e1
    subst e2
    simp at hn
end
theorem wlives_any (w : World) (hS : Sh w) : Calls Tryd.prog 22 #[] w fun e w' => e = .returned (.bool true) ∧ Below w.heap.size w w' := by
  have HN := Lib.hid (new_live 0 0 0 w hS)
  rw [show Sip.U (0 : BitVec 64) = 0 from rfl] at HN
  have hneed : needF 0 = 1 := by rfl
  have hpos := Lib.hid (sh_pos hS)
  go_enter Tryd.func22, Tryd.ntmps22
  go_wp2_with fail
  refine HN.out.mono ?_
  rintro e w1 ⟨hb, ⟨h0, _⟩ | ⟨p, g, hg, rfl, hL⟩⟩
  · rw [hneed] at h0; cases h0
  rw [hneed] at hg
  obtain rfl : g = 1 := by omega
  have HL := Lib.hid hL
  have HB := Lib.hid hb
  clear hb hL hg hneed
  go_wp2
  go_loopw [16] (fun i wr => ∃ (k : Nat) (q : Pl) (m : Mp VT), k ≤ 3 ∧ i = .int .i64 k ∧ q.b = p.b ∧ Live wr w.heap.size q 0 0 m ∧ m.n ≤ k ∧ (1 ≤ k → 1 ≤ m.n) ∧ Below w.heap.size w wr) (fun i _ => 3 - (intOf i).toNat)
  case atStart => exact ⟨0, p, _, by omega, rfl, rfl, HL.out, Nat.le_refl _, by omega, HB.out⟩
  case round =>
    obtain ⟨k, q, m, hk, rfl, hq, hLq, hn, hn1, hB⟩ := hrel
    have HLq := Lib.hid hLq
    have HBr := Lib.hid hB
    have HQ := Lib.hid hq
    have HN1 := Lib.hid hn1
    clear hLq hB hq hn1
    by_cases hlt : k < 3
    · have hd : decide ((k : Int) < 3) = true := decide_eq_true (by omega)
      obtain ⟨key, hkey⟩ : ∃ key : ByteArray, key = ⟨#[UInt8.ofNat (97 + k)]⟩ := ⟨_, rfl⟩
      have hix : (Instr.index 111 (.agg #[.string ⟨#[97]⟩, .string ⟨#[98]⟩, .string ⟨#[99]⟩]) (.int .i64 k)).run Tryd.prog wr = .ok (.string key) wr := by
        rw [hkey]
        rcases (show k = 0 ∨ k = 1 ∨ k = 2 by omega) with rfl | rfl | rfl <;> simp [Instr.index, go_sem]
      have HPU := Lib.hid (put_live HLq.out key key (by rw [hkey]; exact (by decide : 1 ≤ maxLen)))
      obtain ⟨z1, z2⟩ := put_n HLq.out.inv key key (by omega)
      obtain ⟨m2, hm2⟩ : ∃ m2, m2 = put (hashN 0 0) m key key := ⟨_, rfl⟩
      rw [← hm2, HQ.out] at HPU
      rw [← hm2] at z1 z2
      clear hm2 hkey
      go_wp2_with fail
      refine HPU.out.mono ?_
      rintro e w2 ⟨rfl, q2, hq2, hL2, _, hK2⟩
      have L2 := Lib.hid hL2
      have B2 : Hid (Below w.heap.size w w2) := HBr.out.trans (HLq.out.low hK2)
      have HQ2 := Lib.hid (hq2.trans HQ.out)
      clear hL2 hK2 hq2
      go_wp2_with fail
      go_roundw
      case rel => exact ⟨k + 1, q2, m2, by omega, by go_num, HQ2.out, L2.out, by omega, fun _ => z2, B2.out⟩
      case measure => simp [intOf]; omega
    · obtain rfl : k = 3 := by omega
      have hn1 : 1 ≤ m.n := HN1.out (by omega)
      obtain ⟨wC, hwC⟩ : ∃ wC, wC = wr := ⟨_, rfl⟩
      rw [← hwC] at HLq HBr ⊢
      clear hwC
      have HQL : Hid (∀ j, q.own j → j < wC.heap.size) := fun j hj => HLq.out.at_.lt hj
      have HWN := Lib.hid (wnew_any q 0 0 m wC HLq.out.at_ HLq.out.inv)
      rw [HQ.out] at HWN
      obtain ⟨s0, e1, e2, e3, e4, e5⟩ := key_at HLq.out (i := 0) (by omega)
      obtain ⟨rest, hks⟩ : ∃ rest, keysL m = s0 :: rest := by
        have := keysL_len HLq.out.inv
        cases hk : keysL m with
        | nil => rw [hk] at this; simp at this; omega
        | cons a r => rw [hk] at e2; simp at e2; subst e2; exact ⟨r, rfl⟩
      have HNX : Hid (nextL (hashN 0 0) m (keysL m) = ((s0, (getV (hashN 0 0) m s0).1, true), rest)) := by
        show _ = _
        rw [hks]
        unfold nextL
        rw [if_pos e4]
      have HKS := Lib.hid hks
      have E5 : Hid (∃ v, Has m s0 v) := ⟨_, e5⟩
      clear e1 e2 e3 e4 e5 hks
      go_wp2_with fail
      refine HWN.out.mono ?_
      rintro e w4 ⟨b, rfl, hwk, hb4⟩
      have W4 : Hid (Wk w4 wC.heap.size b q.b (keysL m)) := by show Wk _ _ _ _ _; rw [HQ.out]; exact hwk
      have hbu : b < w4.heap.size := by obtain ⟨_, _, h, _⟩ := hwk; exact (Array.getElem?_eq_some_iff.1 h).1
      have HBU := Lib.hid hbu
      clear hbu
      have hbl : wC.heap.size ≤ b := by obtain ⟨_, _, _, _, _, _, h⟩ := hwk; exact h
      have L4 := Lib.hid (HLq.out.below (Nat.le_refl _) hb4)
      have B4 : Hid (Below w.heap.size w w4) := HBr.out.trans (hb4.mono HBr.out.size)
      have S4 : Hid (wC.heap.size ≤ w4.heap.size) := hb4.size
      have hwp := hpos.out
      have hwc := HBr.out.size
      have HNA := Lib.hid (next_any q 0 0 m b (keysL m) w4 w.heap.size L4.out wC.heap.size W4.out (fun k hk => by obtain ⟨v, hv⟩ := mem_keysL.1 hk; exact L4.out.keys k v hv) (fun h => by have := HQL.out b h; omega) (by omega))
      rw [HNX.out] at HNA
      obtain ⟨gv, hgv⟩ : ∃ gv, gv = (getV (hashN 0 0) m s0).1 := ⟨_, rfl⟩
      rw [← hgv] at HNA
      clear hwk hb4 hgv
      go_wp2_with fail
      refine HNA.out.mono ?_
      rintro e w5 ⟨rfl, hwk, hk5⟩
      have W5 := Lib.hid hwk
      have L5 : Hid (Live w5 w.heap.size q 0 0 m) := L4.out.kept hk5 (fun j hj e => by have := HQL.out j hj; omega) (fun e => by omega)
      have B5 : Hid (Below w.heap.size w w5) := B4.out.trans (hk5.below (by have := S4.out; omega) (fun j _ e => by omega))
      have S45 : Hid (w4.heap.size ≤ w5.heap.size) := hk5.size
      have S5 : Hid (wC.heap.size ≤ w5.heap.size) := Nat.le_trans S4.out hk5.size
      have HKE := Lib.hid (keys_any q 0 0 m w5 L5.out.at_ L5.out.inv)
      rw [HQ.out] at HKE
      clear hwk hk5
      go_wp2_with fail
      refine HKE.out.mono ?_
      rintro e w6 ⟨v, rfl, hv, hb6⟩
      obtain ⟨va, vc, rfl, hvc⟩ := own_val hv
      have VK := Lib.hid hv
      have L6 := Lib.hid (L5.out.below (Nat.le_refl _) hb6)
      have W6 := Lib.hid (W5.out.below hb6)
      have B6 : Hid (Below w.heap.size w w6) := B5.out.trans (hb6.mono B5.out.size)
      have S6 : Hid (wC.heap.size ≤ w6.heap.size) := Nat.le_trans S5.out hb6.size
      obtain ⟨n, hnn⟩ : ∃ n, n = m.n := ⟨_, rfl⟩
      have HNN := Lib.hid hnn
      have hn3 : n ≤ 3 := by omega
      have S56 : Hid (w4.heap.size ≤ w6.heap.size) := Nat.le_trans S45.out hb6.size
      rw [← hnn] at VK
      rw [← hnn]
      clear hv hvc hb6 hnn
      go_wp2
      go_loopw [35] (fun i wr => ∃ (j : Nat) (q2 : Pl) (m2 : Mp VT), j ≤ n ∧ i = .int .i64 j ∧ q2.b = p.b ∧ Live wr w.heap.size q2 0 0 m2 ∧ (∀ i, q2.own i → q.own i ∨ w6.heap.size ≤ i) ∧ Kept q.own w6 wr ∧ (∀ k v, Has m2 k v ↔ Has m k v ∧ (k = s0 ∨ ∀ i, i < j → k ≠ (keysL m).getD i default))) (fun i _ => n - (intOf i).toNat)
      case atStart => exact ⟨0, q, m, by omega, rfl, HQ.out, L6.out, fun i hi => .inl hi, Kept.refl _ _, fun k v => ⟨fun h => ⟨h, .inr fun i hi => by omega⟩, fun h => h.1⟩⟩
      case round =>
        obtain ⟨j, q2, m2, hj, rfl, hq2, hL2, ho2, hk2, hh2⟩ := hrel
        have HL2 := Lib.hid hL2
        have HO2 := Lib.hid ho2
        have HK2 := Lib.hid hk2
        have HH2 := Lib.hid hh2
        have HQ2 := Lib.hid hq2
        clear hL2 ho2 hk2 hh2 hq2
        have B7 : Hid (Below w.heap.size w wr) := B6.out.trans (HK2.out.below (by have := S6.out; omega) (fun i _ h => L6.out.own i h))
        have hqo : Hid (∀ i, wC.heap.size ≤ i → ¬ q.own i) := fun i hi h => by have := HQL.out i h; omega
        by_cases hlt : j < n
        · have hd2 : decide ((j : Int) < (n : Int)) = true := decide_eq_true (by omega)
          have hkn : (j : Int) < (n : Int) := by omega
          obtain ⟨gg, cap, hv, _, hgb1, _, hcells⟩ := own_read VK.out (by omega)
          injection hv with hva _ hvc'
          subst hva
          obtain ⟨s, e1, e2, e3, _⟩ := key_at HLq.out (i := j) (by rw [← HNN.out]; exact hlt)
          have x0 := kept_cell HK2.out (hcells _ _ e1) (hqo.out _ (Nat.le_trans S5.out hgb1))
          have HE2 := Lib.hid e2
          have HE3 := Lib.hid e3
          clear hcells e1 e2 e3 hvc'
          by_cases hs : s = s0
          · have hne : (s.toList == s0.toList) = true := by rw [beq_toList]; exact decide_eq_true hs
            have HS0 := Lib.hid hs
            clear hs
            go_wp2_with fail
            go_roundw
            case rel =>
              refine ⟨j + 1, q2, m2, by omega, by go_num, HQ2.out, HL2.out, HO2.out, HK2.out, fun k v => ?_⟩
              rw [HH2.out]
              refine and_congr_right fun _ => ⟨?_, ?_⟩
              · rintro (h | h)
                · exact .inl h
                · by_cases hk : k = s0
                  · exact .inl hk
                  · refine .inr fun i hi => ?_
                    rcases Nat.lt_succ_iff_lt_or_eq.1 hi with h1 | rfl
                    · exact h i h1
                    · rw [← HE2.out, HS0.out]; exact hk
              · rintro (h | h)
                · exact .inl h
                · exact .inr fun i hi => h i (by omega)
            case measure => simp [intOf]; omega
          · have hne : (s.toList == s0.toList) = false := by rw [beq_toList]; exact decide_eq_false hs
            have HS0 := Lib.hid hs
            have HDE := Lib.hid (delete_live HL2.out s HE3.out)
            rw [HQ2.out] at HDE
            clear hs
            go_wp2_with fail
            refine HDE.out.mono ?_
            rintro e w8 ⟨rfl, q3, hq3, hL3, ho3, hk3⟩
            have L3 := Lib.hid hL3
            have O3 : Hid (∀ i, q3.own i → q.own i ∨ w6.heap.size ≤ i) := fun i hi => by
              rcases ho3 i hi with h | h
              · exact HO2.out i h
              · exact .inr (Nat.le_trans HK2.out.size h)
            have K3 : Hid (Kept q.own w6 w8) := HK2.out.join hk3 (fun _ h => h) (fun i hi h => (HO2.out i h).resolve_right (by omega))
            have HQ3 := Lib.hid (hq3.trans HQ2.out)
            clear hL3 ho3 hk3 hq3
            go_wp2_with fail
            go_roundw
            case rel =>
              refine ⟨j + 1, q3, _, by omega, by go_num, HQ3.out, L3.out, O3.out, K3.out, fun k v => ?_⟩
              rw [del_has HL2.out.inv, HH2.out]
              constructor
              · rintro ⟨h1, h2, h3⟩
                refine ⟨h2, h3.imp id fun h i hi => ?_⟩
                rcases Nat.lt_succ_iff_lt_or_eq.1 hi with h4 | rfl
                · exact h i h4
                · rw [← HE2.out]; exact h1
              · rintro ⟨h2, h3⟩
                refine ⟨fun e => ?_, h2, h3.imp id fun h i hi => h i (by omega)⟩
                rcases h3 with h3 | h3
                · exact HS0.out (e.symm.trans h3)
                · exact h3 j (by omega) (by rw [← HE2.out]; exact e)
            case measure => simp [intOf]; omega
        · obtain rfl : j = n := by omega
          have hd2 : decide ((j : Int) < (j : Int)) = false := decide_eq_false (by omega)
          have hall : ∀ k v, Has m2 k v ↔ Has m k v ∧ k = s0 := fun k v => by
            rw [HH2.out]
            refine and_congr_right fun h => ⟨fun h1 => h1.resolve_right fun h2 => ?_, .inl⟩
            obtain ⟨i, hi, e⟩ := List.getElem_of_mem (mem_keysL.2 ⟨v, h⟩)
            have hl := keysL_len HLq.out.inv
            exact h2 i (by rw [HNN.out]; omega) (by rw [List.getD_eq_getElem?_getD, List.getElem?_eq_getElem hi, ← e]; rfl)
          have hone := one_left HLq.out.inv HL2.out.inv E5.out hall
          have hnx : nextL (hashN 0 0) m2 rest = ((ByteArray.empty, default, false), []) := nextL_none fun k hk => getV_none HL2.out.inv fun v hv => by
            have e := ((hall k v).1 hv).2
            subst e
            have := keysL_nodup HLq.out.inv
            rw [HKS.out] at this
            exact (List.nodup_cons.1 this).1 hk
          have W7 : Hid (Wk wr wC.heap.size b q2.b rest) := by
            have := W6.out.kept HK2.out hqo.out
            rw [HQ.out, ← HQ2.out] at this
            exact this
          have HNB : Hid (¬ q2.own b) := fun h => by
            rcases HO2.out b h with h | h
            · exact hqo.out b hbl h
            · have := HBU.out; have := S56.out; omega
          have HNA := Lib.hid (next_any q2 0 0 m2 b rest wr w.heap.size HL2.out wC.heap.size W7.out (fun k hk => by obtain ⟨v, hv⟩ := mem_keysL.1 (show k ∈ keysL m by rw [HKS.out]; exact List.mem_cons_of_mem _ hk); exact HLq.out.keys k v hv) HNB.out (by omega))
          rw [hnx] at HNA
          have HONE := Lib.hid hone
          clear hall hnx hone
          go_wp2_with fail
          refine HNA.out.mono ?_
          rintro e w8 ⟨rfl, hwk, hk8⟩
          have W8 := Lib.hid hwk
          have HLE := Lib.hid (len_any q2 0 0 m2 w8 (HL2.out.at_.kept hk8 (fun j hj e => HNB.out (e ▸ hj))) HL2.out.len)
          have HLF := Lib.hid (left_any wC.heap.size b q2.b [] w8 hwk)
          rw [HQ2.out, HONE.out] at HLE
          have B8 : Hid (Below w.heap.size w w8) := B7.out.trans (hk8.below B7.out.size (fun i _ e => by omega))
          clear hwk hk8
          go_wp2_with fail
          refine HLE.out.mono ?_
          rintro e w9 ⟨rfl, rfl⟩
          go_wp2_with fail
          refine HLF.out.mono ?_
          rintro e w9 ⟨rfl, rfl⟩
          go_wp2
          go_ret
          exact ⟨rfl, B8.out⟩
end Go.Proofs.YtcooapflofiolaaDoor.MS

/- What WalkOnce needs of the plain map: which keys were told, which are gone. -/
namespace Go.Proofs.YtcooapflofiolaaDoor.MS
open Go Go.RowKit Go.Shelf
set_option linter.unusedVariables false
set_option linter.unusedSectionVars false
section
variable {H : ByteArray → Nat} {m : Mp VT}
theorem getV_of {k v : ByteArray} (I : MInv H m) (h : Has m k v) : getV H m k = (v, true) := by
  unfold getV
  cases hf : find H m k with
  | none => exact absurd hf ((find_has I).1 ⟨v, h⟩)
  | some x => rw [(find_val I hf).1 h]
theorem getV_no {k : ByteArray} (I : MInv H m) (h : (getV H m k).2 = false) : ¬ ∃ v, Has m k v := fun ⟨v, hv⟩ => by rw [getV_of I hv] at h; cases h
theorem getV_true {k : ByteArray} (h : (getV H m k).2 = true) : getV H m k = ((getV H m k).1, true) := by rw [← h]
theorem nextL_spec : ∀ (l : List ByteArray), (∃ (i : Nat) (k : ByteArray), l[i]? = some k ∧ (getV H m k).2 = true ∧ (∀ (j : Nat) (u : ByteArray), j < i → l[j]? = some u → (getV H m u).2 = false) ∧ nextL H m l = ((k, (getV H m k).1, true), l.drop (i + 1))) ∨ ((∀ (j : Nat) (u : ByteArray), l[j]? = some u → (getV H m u).2 = false) ∧ nextL H m l = ((ByteArray.empty, default, false), []))
  | [] => .inr ⟨fun j u h => by simp at h, rfl⟩
  | a :: r => by
    cases hg : (getV H m a).2 with
    | true => exact .inl ⟨0, a, rfl, hg, fun j u h => by omega, by unfold nextL; rw [if_pos hg]; rfl⟩
    | false =>
      have hn : nextL H m (a :: r) = nextL H m r := by
        conv => lhs; unfold nextL
        rw [if_neg (by rw [hg]; decide)]
      rcases nextL_spec r with ⟨i, k, h1, h2, h3, h4⟩ | ⟨h1, h2⟩
      · refine .inl ⟨i + 1, k, h1, h2, fun j u hj hu => ?_, by rw [hn, h4]; rfl⟩
        match j with
        | 0 => simp at hu; subst hu; exact hg
        | j + 1 => exact h3 j u (by omega) hu
      · refine .inr ⟨fun j u hu => ?_, by rw [hn, h2]⟩
        match j with
        | 0 => simp at hu; subst hu; exact hg
        | j + 1 => exact h1 j u hu
theorem put_stays (I : MInv H m) (key v k : ByteArray) (h : ∃ u, Has m k u) : ∃ u, Has (put H m key v) k u := by
  obtain ⟨u, hu⟩ := h
  by_cases hn : m.n < 2000 ∨ find H m key ≠ none
  · by_cases hk : k = key
    · exact ⟨v, (put_has I hn k v).2 (by rw [if_pos hk])⟩
    · exact ⟨u, (put_has I hn k u).2 (by rw [if_neg hk]; exact hu)⟩
  · rw [put_full (Classical.not_not.1 fun h => hn (.inr h)) (Nat.le_of_not_lt fun h => hn (.inl h))]
    exact ⟨u, hu⟩
/-- How far a walk over the keys B has come: which were told, which are gone. -/
structure Tk (m : Mp VT) (B : List ByteArray) (d : Nat) (g : Nat → Bool) (t : Nat → Nat) : Prop where
  le : d ≤ B.length
  pre : ∀ j, j < d → t j = 1 ∨ (t j = 0 ∧ g j = true)
  post : ∀ j, d ≤ j → t j = 0
  here : ∀ j k, B[j]? = some k → g j = false → ∃ v, Has m k v
variable {B : List ByteArray} {d : Nat} {g : Nat → Bool} {t : Nat → Nat}
theorem Tk.zero (I : MInv H m) : Tk m (keysL m) 0 (fun _ => false) (fun _ => 0) :=
  ⟨Nat.zero_le _, fun j h => by omega, fun _ _ => rfl, fun j k h _ => mem_keysL.1 (List.mem_of_getElem? h)⟩
theorem Tk.put (h : Tk m B d g t) (I : MInv H m) (key v : ByteArray) : Tk (put H m key v) B d g t :=
  ⟨h.le, h.pre, h.post, fun j k hk hg => put_stays I key v k (h.here j k hk hg)⟩
def goneF (B : List ByteArray) (key : ByteArray) (g : Nat → Bool) (j : Nat) : Nat → Bool := fun i => if i < j then g i || decide (B.getD i default = key) else g i
theorem goneF_succ (B : List ByteArray) (key : ByteArray) (g : Nat → Bool) {j : Nat} {s : ByteArray} (hs : B[j]? = some s) {v : Bool} (hv : v = (g j || decide (s = key))) (i : Nat) : goneF B key g (j + 1) i = if i = j then v else goneF B key g j i := by
  unfold goneF
  by_cases hi : i = j
  · subst hi
    rw [if_pos (by omega), if_pos rfl, hv, List.getD_eq_getElem?_getD, hs]; rfl
  · rw [if_neg hi]
    by_cases h2 : i < j
    · rw [if_pos (by omega), if_pos h2]
    · rw [if_neg (by omega), if_neg h2]
theorem Tk.del (h : Tk m B d g t) (I : MInv H m) (key : ByteArray) : Tk (del H m key) B d (goneF B key g B.length) t := by
  refine ⟨h.le, fun j hj => ?_, h.post, fun j k hk hg => ?_⟩
  · rcases h.pre j hj with h1 | ⟨h1, h2⟩
    · exact .inl h1
    · refine .inr ⟨h1, ?_⟩
      unfold goneF
      rw [h2]
      split <;> rfl
  · have hj := (List.getElem?_eq_some_iff.1 hk).1
    unfold goneF at hg
    rw [if_pos hj, Bool.or_eq_false_iff] at hg
    obtain ⟨v, hv⟩ := h.here j k hk hg.1
    refine ⟨v, (del_has I k v).2 ⟨fun e => ?_, hv⟩⟩
    have := hg.2
    rw [List.getD_eq_getElem?_getD, hk] at this
    simp at this
    exact this e
def toldF (t : Nat → Nat) (x : Nat) (j : Nat) : Nat → Nat := fun i => if i = x ∧ x < j then t i + 1 else t i
theorem toldF_succ (t : Nat → Nat) (x j i : Nat) : toldF t x (j + 1) i = if i = j then (if j = x then t j + 1 else t j) else toldF t x j i := by
  unfold toldF
  by_cases hi : i = j
  · subst hi
    rw [if_pos rfl]
    by_cases h2 : i = x
    · rw [if_pos ⟨h2, by omega⟩, if_pos h2]
    · rw [if_neg (fun e => h2 e.1), if_neg h2]
  · rw [if_neg hi]
    by_cases h2 : i = x ∧ x < j
    · rw [if_pos ⟨h2.1, by omega⟩, if_pos h2]
    · rw [if_neg (fun e => h2 ⟨e.1, by omega⟩), if_neg h2]
/-- What Next tells, and how far the walk then is. -/
theorem Tk.next (h : Tk m B d g t) (I : MInv H m) :
    (∃ x k, x < B.length ∧ d ≤ x ∧ B[x]? = some k ∧ t x = 0 ∧ (getV H m k).2 = true ∧ nextL H m (B.drop d) = ((k, (getV H m k).1, true), B.drop (x + 1)) ∧ Tk m B (x + 1) g (toldF t x B.length)) ∨
    (nextL H m (B.drop d) = ((ByteArray.empty, default, false), []) ∧ Tk m B B.length g t) := by
  rcases nextL_spec (H := H) (m := m) (B.drop d) with ⟨i, k, h1, h2, h3, h4⟩ | ⟨h1, h2⟩
  · rw [List.getElem?_drop] at h1
    have hx := (List.getElem?_eq_some_iff.1 h1).1
    refine .inl ⟨d + i, k, hx, by omega, h1, h.post _ (by omega), h2, by rw [h4, List.drop_drop, Nat.add_assoc], ⟨by omega, fun j hj => ?_, fun j hj => ?_, h.here⟩⟩
    · unfold toldF
      by_cases hjx : j = d + i
      · rw [if_pos ⟨hjx, hx⟩, h.post j (by omega)]; exact .inl rfl
      · rw [if_neg (fun e => hjx e.1)]
        by_cases hjd : j < d
        · exact h.pre j hjd
        · refine .inr ⟨h.post j (by omega), ?_⟩
          have hjl : j < B.length := by omega
          have := h3 (j - d) B[j] (by omega) (by rw [List.getElem?_drop, show d + (j - d) = j by omega, List.getElem?_eq_getElem hjl])
          cases hg : g j with
          | true => rfl
          | false => exact absurd (h.here j B[j] (List.getElem?_eq_getElem hjl) hg) (getV_no I this)
    · unfold toldF
      rw [if_neg (by omega)]
      exact h.post j (by omega)
  · refine .inr ⟨h2, ⟨Nat.le_refl _, fun j hj => ?_, fun j hj => h.post j (by have := h.le; omega), h.here⟩⟩
    by_cases hjd : j < d
    · exact h.pre j hjd
    · refine .inr ⟨h.post j (by omega), ?_⟩
      have := h1 (j - d) B[j] (by rw [List.getElem?_drop, show d + (j - d) = j by omega, List.getElem?_eq_getElem hj])
      cases hg : g j with
      | true => rfl
      | false => exact absurd (h.here j B[j] (List.getElem?_eq_getElem hj) hg) (getV_no I this)
end
/-- Rows of bools and of numbers that functions tell. -/
def rowB (g : Nat → Bool) (n : Nat) : List Value := (List.range n).map fun i => .bool (g i)
def rowI (t : Nat → Nat) (n : Nat) : List Value := (List.range n).map fun i => .int .i64 (t i : Nat)
theorem rowB_at (g : Nat → Bool) {n j : Nat} (h : j < n) : (rowB g n)[j]? = some (.bool (g j)) := by simp [rowB, h]
theorem rowI_at (t : Nat → Nat) {n j : Nat} (h : j < n) : (rowI t n)[j]? = some (.int .i64 (t j : Nat)) := by simp [rowI, h]
theorem rowB_set (g g' : Nat → Bool) (n j : Nat) (v : Bool) (h : ∀ i, i < n → g' i = if i = j then v else g i) : (rowB g n).set j (.bool v) = rowB g' n := by
  apply List.ext_getElem?
  intro i
  by_cases hi : i < n
  · rw [rowB_at g' hi, h i hi, List.getElem?_set]
    by_cases e : j = i
    · subst e; simp [rowB, hi]
    · rw [if_neg e, if_neg (fun h => e h.symm), rowB_at g hi]
  · rw [List.getElem?_eq_none (by simp [rowB]; omega), List.getElem?_eq_none (by simp [rowB]; omega)]
theorem rowI_set (g g' : Nat → Nat) (n j : Nat) (v : Nat) (h : ∀ i, i < n → g' i = if i = j then v else g i) : (rowI g n).set j (.int .i64 (v : Nat)) = rowI g' n := by
  apply List.ext_getElem?
  intro i
  by_cases hi : i < n
  · rw [rowI_at g' hi, h i hi, List.getElem?_set]
    by_cases e : j = i
    · subst e; simp [rowI, hi]
    · rw [if_neg e, if_neg (fun h => e h.symm), rowI_at g hi]
  · rw [List.getElem?_eq_none (by simp [rowI]; omega), List.getElem?_eq_none (by simp [rowI]; omega)]
theorem rowB_congr {g g' : Nat → Bool} {n : Nat} (h : ∀ i, i < n → g i = g' i) : rowB g n = rowB g' n := by
  unfold rowB
  exact List.map_congr_left fun i hi => by rw [h i (List.mem_range.1 hi)]
theorem rowI_congr {g g' : Nat → Nat} {n : Nat} (h : ∀ i, i < n → g i = g' i) : rowI g n = rowI g' n := by
  unfold rowI
  exact List.map_congr_left fun i hi => by rw [h i (List.mem_range.1 hi)]
end Go.Proofs.YtcooapflofiolaaDoor.MS

/- few of chapter 6: are the acts few and short? -/
namespace Go.Proofs.YtcooapflofiolaaDoor
open Go Go.RowKit Go.Shelf
set_option linter.unusedVariables false
set_option linter.unusedSimpArgs false
set_option maxRecDepth 100000
set_option maxHeartbeats 4000000
def Few6 (xs : List Ac) (k : Nat) : Prop := k ≤ 500 ∧ ∀ j, j < k → (xs.getD j default).key.size < 40000 ∧ (xs.getD j default).val.size < 40000
theorem few6_any (s : Option Addr) (n c : Nat) (xs : List Ac) (w : World) (h : AR w s n xs) :
    Calls Tryd.prog 21 #[.slice s n c] w fun e w' => ∃ b : Bool, e = .returned (.bool b) ∧ Below w.heap.size w w' ∧ (b = true → Few6 xs n) := by
  have HA := Lib.hid h
  clear h
  go_enter Tryd.func21, Tryd.ntmps21
  go_wp2
  go_loopw [3, 8] (fun t i wr => ∃ (k u : Nat), k ≤ n ∧ i = .int .i64 k ∧ t = .int .i64 u ∧ k ≤ u ∧ u ≤ 500 ∧ Few6 xs k ∧ Below w.heap.size w wr) (fun t i _ => n - (intOf i).toNat)
  case atStart => exact ⟨0, 0, by omega, rfl, rfl, by omega, by omega, ⟨by omega, fun j hj => by omega⟩, Below.refl _ _⟩
  case round =>
    obtain ⟨k, u, hk, rfl, rfl, hku, hu, hF, hB⟩ := hrel
    have HF := Lib.hid hF
    have HB := Lib.hid hB
    clear hF hB
    by_cases hlt : k < n
    · have hd : decide ((k : Int) < (n : Int)) = true := decide_eq_true (by omega)
      have hkn : (k : Int) < (n : Int) := by omega
      obtain ⟨b, off, rfl, x0, x1, x2⟩ := (HA.out.below (Nat.le_refl _) HB.out).act hlt
      obtain ⟨z1, z2⟩ := HA.out.2.2 k hlt
      obtain ⟨x, hx⟩ : ∃ x, x = xs.getD k default := ⟨_, rfl⟩
      rw [← hx] at x0 x1 x2 z1 z2
      have HX := Lib.hid hx
      clear hx
      have hw1 : IntKind.i64.wrap ((x.key.size : Int) + (x.val.size : Int)) = (x.key.size : Int) + (x.val.size : Int) := IntWalk.i64_in _ (by omega)
      have hw2 : IntKind.i64.wrap (1 + ((x.key.size : Int) + (x.val.size : Int)) / 50) = 1 + ((x.key.size : Int) + (x.val.size : Int)) / 50 := IntWalk.i64_in _ (by omega)
      have hw3 : IntKind.i64.wrap ((u : Int) + (1 + ((x.key.size : Int) + (x.val.size : Int)) / 50)) = (u : Int) + (1 + ((x.key.size : Int) + (x.val.size : Int)) / 50) := IntWalk.i64_in _ (by omega)
      by_cases hbig : 500 < u + (1 + (x.key.size + x.val.size) / 50)
      · have hd2 : decide ((500 : Int) < (u : Int) + (1 + ((x.key.size : Int) + (x.val.size : Int)) / 50)) = true := decide_eq_true (by omega)
        clear hbig
        go_wp2
        go_ret
        exact ⟨false, rfl, HB.out.alloc HB.out.size _, fun h => by cases h⟩
      · have hd2 : decide ((500 : Int) < (u : Int) + (1 + ((x.key.size : Int) + (x.val.size : Int)) / 50)) = false := decide_eq_false (by omega)
        go_wp2
        go_roundw
        case rel =>
          refine ⟨k + 1, u + (1 + (x.key.size + x.val.size) / 50), by omega, by go_num, by go_num, by omega, by omega, ⟨by omega, fun j hj => ?_⟩, HB.out.alloc HB.out.size _⟩
          rcases Nat.lt_succ_iff_lt_or_eq.1 hj with h1 | rfl
          · exact HF.out.2 j h1
          · rw [← HX.out]; omega
        case measure => simp [intOf]; omega
    · obtain rfl : k = n := by omega
      have hd : decide ((k : Int) < (k : Int)) = false := decide_eq_false (by omega)
      go_wp2
      go_ret
      exact ⟨true, rfl, HB.out, fun _ => HF.out⟩
end Go.Proofs.YtcooapflofiolaaDoor

/- A walk and the document's, side by side. -/
namespace Go.Proofs.YtcooapflofiolaaDoor
open Go Go.RowKit Go.Shelf
set_option linter.unusedVariables false
set_option linter.unusedSimpArgs false
set_option linter.unusedSectionVars false
set_option maxRecDepth 100000
theorem nextL_sub {H : ByteArray → Nat} {m : Mp ByteArray} (l : List ByteArray) : ∀ u, u ∈ (MS.nextL H m l).2 → u ∈ l := by
  rcases MS.nextL_spec (H := H) (m := m) l with ⟨i, k, _, _, _, h⟩ | ⟨_, h⟩
  · rw [h]; exact fun u hu => List.mem_of_mem_drop hu
  · rw [h]; exact fun u hu => by simp at hu
/-- Two maps and two walks through them. -/
structure WW (lo wS h1 h2 b1 b2 pb qb : Nat) (w : World) (p q : Pl) (k0 k1 : BitVec 64) (m : Mp ByteArray) (l : List ByteArray) : Prop where
  br : BR lo w p q k0 k1 m m
  hp : p.b = pb
  hq : q.b = qb
  o : ∀ j, owns p q j → j < wS ∨ h2 ≤ j
  x : MS.Wr w (fun j => wS ≤ j ∧ j < h1) b1 pb l
  y : RM.Wq w (fun j => h1 ≤ j ∧ j < h2) b2 qb l
  z : ∀ u, u ∈ l → u.size ≤ maxLen
  le : lo ≤ wS ∧ wS ≤ h1 ∧ h1 ≤ h2 ∧ h2 ≤ w.heap.size
section
variable {lo wS h1 h2 b1 b2 pb qb : Nat} {w w' : World} {p q p2 q2 : Pl} {k0 k1 : BitVec 64} {m m2 : Mp ByteArray} {l : List ByteArray}
theorem WW.below (h : WW lo wS h1 h2 b1 b2 pb qb w p q k0 k1 m l) (hb : Below w.heap.size w w') : WW lo wS h1 h2 b1 b2 pb qb w' p q k0 k1 m l :=
  ⟨h.br.below (Nat.le_refl _) hb, h.hp, h.hq, h.o, h.x.below hb, h.y.below hb, h.z, by have := h.le; have := hb.size; omega⟩
theorem WW.step (h : WW lo wS h1 h2 b1 b2 pb qb w p q k0 k1 m l) (hbr : BR lo w' p2 q2 k0 k1 m2 m2) (hs : Stq w (owns p q) w' (owns p2 q2)) (e1 : p2.b = p.b) (e2 : q2.b = q.b) : WW lo wS h1 h2 b1 b2 pb qb w' p2 q2 k0 k1 m2 l := by
  have hl := h.le
  exact ⟨hbr, e1.trans h.hp, e2.trans h.hq, fun j hj => by
      rcases hs.inc j hj with h3 | h3
      · exact h.o j h3
      · exact .inr (by omega),
    h.x.kept hs.k (fun j hj e => by rcases h.o j e with h3 | h3 <;> omega), h.y.kept hs.k (fun j hj e => by rcases h.o j e with h3 | h3 <;> omega), h.z, by have := hs.k.size; omega⟩
theorem WW.b1r (h : WW lo wS h1 h2 b1 b2 pb qb w p q k0 k1 m l) : wS ≤ b1 ∧ b1 < h1 := by obtain ⟨a, c, _, _, _, _, h5⟩ := h.x; exact h5
theorem WW.b2r (h : WW lo wS h1 h2 b1 b2 pb qb w p q k0 k1 m l) : h1 ≤ b2 ∧ b2 < h2 := by obtain ⟨a, c, _, _, _, _, h5⟩ := h.y; exact h5
/-- Both walks go on. -/
theorem WW.next1 (h : WW lo wS h1 h2 b1 b2 pb qb w p q k0 k1 m l) :
    Calls Tryd.prog 27 #[.pointer (some ⟨b1, 0, none⟩)] w fun e w' => e = .returned (.tuple #[.string (MS.nextL (hashN k0 k1) m l).1.1, .string (MS.nextL (hashN k0 k1) m l).1.2.1, .bool (MS.nextL (hashN k0 k1) m l).1.2.2]) ∧ MS.Wr w' (fun j => wS ≤ j ∧ j < h1) b1 pb (MS.nextL (hashN k0 k1) m l).2 ∧ Kept (· = b1) w w' := by
  have hb := h.b1r
  have hl := h.le
  have hx := h.x
  rw [← h.hp] at hx ⊢
  exact MS.next_r p k0 k1 m b1 l w lo h.br.x _ hx h.z (fun e => by rcases h.o b1 (.inl e) with h3 | h3 <;> omega) (by have := h.br.x.pos; omega)
theorem WW.next2 (h : WW lo wS h1 h2 b1 b2 pb qb w p q k0 k1 m l) (hk : Kept (· = b1) w w') :
    Calls Tryd.prog 28 #[.pointer (some ⟨b2, 0, none⟩)] w' fun e w2 => e = .returned (.tuple #[.string (MS.nextL (hashN k0 k1) m l).1.1, .string (MS.nextL (hashN k0 k1) m l).1.2.1, .bool (MS.nextL (hashN k0 k1) m l).1.2.2]) ∧ RM.Wq w2 (fun j => h1 ≤ j ∧ j < h2) b2 qb (MS.nextL (hashN k0 k1) m l).2 ∧ Kept (· = b2) w' w2 := by
  have hb := h.b2r
  have hb1 := h.b1r
  have hl := h.le
  have hy := h.y.kept hk (fun j hj e => by have : j = b1 := e; omega)
  have hL := h.br.y.kept hk (fun j hj e => by have : j = b1 := e; rcases h.o j (.inr hj) with h3 | h3 <;> omega)
  rw [← h.hq] at hy ⊢
  exact RM.qnext_any q k0 k1 m b2 l w' lo hL _ hy h.z (fun e => by rcases h.o b2 (.inr e) with h3 | h3 <;> omega) (by have := h.br.x.pos; omega)
theorem WW.nexts {w2 : World} (h : WW lo wS h1 h2 b1 b2 pb qb w p q k0 k1 m l) (hx : MS.Wr w' (fun j => wS ≤ j ∧ j < h1) b1 pb (MS.nextL (hashN k0 k1) m l).2) (hk1 : Kept (· = b1) w w')
    (hy : RM.Wq w2 (fun j => h1 ≤ j ∧ j < h2) b2 qb (MS.nextL (hashN k0 k1) m l).2) (hk2 : Kept (· = b2) w' w2) : WW lo wS h1 h2 b1 b2 pb qb w2 p q k0 k1 m (MS.nextL (hashN k0 k1) m l).2 := by
  have hb := h.b2r
  have hb1 := h.b1r
  have hl := h.le
  have hp := h.br.x.pos
  refine ⟨(h.br.kept hk1 (fun j h3 h4 h5 e => ?_) (fun e => ?_)).kept hk2 (fun j h3 h4 h5 e => ?_) (fun e => ?_), h.hp, h.hq, h.o, hx.kept hk2 (fun j hj e => by have : j = b2 := e; omega), hy, fun u hu => h.z u (nextL_sub l u hu), by have := hk1.size; have := hk2.size; omega⟩
  · have : j = b1 := e; rcases h.o j h5 with h6 | h6 <;> omega
  · have : 0 = b1 := e; omega
  · have : j = b2 := e; rcases h.o j h5 with h6 | h6 <;> omega
  · have : 0 = b2 := e; omega
theorem WW.low1 (h : WW lo wS h1 h2 b1 b2 pb qb w p q k0 k1 m l) (hk : Kept (· = b1) w w') : Below lo w w' := hk.below (by have := h.le; omega) (fun j _ e => by have : j = b1 := e; have := h.b1r; have := h.le; omega)
theorem WW.low2 {w2 : World} (h : WW lo wS h1 h2 b1 b2 pb qb w p q k0 k1 m l) (hs : w.heap.size ≤ w'.heap.size) (hk : Kept (· = b2) w' w2) : Below lo w' w2 := hk.below (by have := h.le; omega) (fun j _ e => by have : j = b2 := e; have := h.b2r; have := h.le; omega)
/-- How many are ahead. -/
theorem WW.left (h : WW lo wS h1 h2 b1 b2 pb qb w p q k0 k1 m l) : Calls Tryd.prog 29 #[.pointer (some ⟨b1, 0, none⟩)] w fun e w' => e = .returned (.int .i64 (l.length : Nat)) ∧ w = w' := MS.left_r _ b1 pb l w h.x
theorem WW.cell (h : WW lo wS h1 h2 b1 b2 pb qb w p q k0 k1 m l) : ∃ a c, w.cell? ⟨b2, 1, none⟩ = some (.slice a l.length c) := by
  obtain ⟨a, c, h1, _⟩ := h.y
  exact ⟨a, c, by unfold World.cell?; simp [h1]⟩
end
end Go.Proofs.YtcooapflofiolaaDoor

/- The law 'WalkActs' answers true at every input, and leaves its arguments as they were; the listed table starts as the program's text lays it (the given tie). (The frame was written by a program, after the kit's own frames.) -/
namespace Go.Proofs.YtcooapflofiolaaDoor.walkActs
open Go.ChangeShapes Go.WideShapes Go.ChangeAt Go.RowKit Go.Shelf Go.Proofs.YtcooapflofiolaaDoor
open Go.ChangeMaps (open_string shut_string)
set_option linter.unusedVariables false
set_option linter.unusedSimpArgs false
set_option maxRecDepth 100000

theorem laidOut : laidOutB Tryd.prog = true := by kernel_rfl

set_option maxHeartbeats 8000000 in
theorem walk (w : World) (hS : Sh w) (a0 b0 : BitVec 64) (s1 : Option Addr) (n1 c1 : Nat) (xs1 : List Ac) (ar1 : AR w s1 n1 xs1) (s2 : Option Addr) (n2 c2 : Nat) (xs2 : List Ac) (ar2 : AR w s2 n2 xs2) :
    Calls Tryd.prog 4 #[.agg #[.int .u64 (Sip.U a0), .int .u64 (Sip.U b0)], .slice s1 n1 c1, .slice s2 n2 c2] w fun e w' => e = .returned (.bool true) ∧ Below w.heap.size w w' := by
  have HAR := Lib.hid ar1
  have HAR2 := Lib.hid ar2
  have HSh := Lib.hid hS
  obtain ⟨w1, hw1⟩ : ∃ w1, w1 = w.alloc (.cells #[.int .u64 (Sip.U a0), .int .u64 (Sip.U b0)] 24) := ⟨_, rfl⟩
  have B1 : Hid (Below w.heap.size w w1) := by rw [hw1]; exact (Below.refl _ w).alloc (Nat.le_refl _) _
  have S1 : Hid (Sh w1) := HSh.out.below B1.out
  have SK : Hid (∀ W, Below w1.heap.size w1 W → W.cell? ⟨w.heap.size, 0, none⟩ = some (.int .u64 (Sip.U a0)) ∧ W.cell? ⟨w.heap.size, 1, none⟩ = some (.int .u64 (Sip.U b0))) := by
    show ∀ W, _
    intro W hW
    exact ⟨low_cell hW (Nat.le_refl _) (by rw [hw1]; simp), low_cell hW (Nat.le_refl _) (by rw [hw1]; simp)⟩
  have HLV : Hid (∀ W, Below w.heap.size w W → Calls Tryd.prog 22 #[] W fun e w' => e = .returned (.bool true) ∧ Below w.heap.size w w') := by
    show ∀ W, _
    intro W hW
    exact (MS.wlives_any W (HSh.out.below hW)).mono fun e w' ⟨h1, h2⟩ => ⟨h1, hW.trans (h2.mono hW.size)⟩
  have HLO : Hid (w.heap.size ≤ w1.heap.size) := B1.out.size
  have HW1 := Lib.hid hw1
  clear hw1 hS ar1 ar2
  have HX := Lib.hid (fun W hW => newX a0 b0 0 1 rfl (by omega) w1 S1.out W hW)
  have HY := Lib.hid (fun W hW => newY a0 b0 0 1 rfl (by omega) w1 W hW)
  go_enter Tryd.func4, Tryd.ntmps4
  go_upto_region 1 with fail
  rw [← HW1.out]
  go_cut [7, 8] (fun x y wx => ∃ px py : Pl, x = .pointer (some ⟨px.b, 0, none⟩) ∧ y = .pointer (some ⟨py.b, 0, none⟩) ∧ BR w1.heap.size wx px py a0 b0 (empty 1) (empty 1) ∧ Below w1.heap.size w1 wx)
  case first =>
    have Lx : Hid (Below w1.heap.size w1 w1.drew) := (Below.refl _ _).drew
    go_region_held3 (fun W => W.cell? ⟨w.heap.size, 0, none⟩ = some (.int .u64 (Sip.U a0)) ∧ W.cell? ⟨w.heap.size, 1, none⟩ = some (.int .u64 (Sip.U b0)))
      (first | (refine SK.out _ ?_; repeat (first | exact HBY.out | exact HBX.out | exact Below.refl _ _ | refine Below.drew ?_)))
      (first
        | (go_at_call 13; (with_reducible refine (HX.out _ ?_).mono ?_); (first | exact Below.refl _ _ | exact Lx.out | exact HBY.out | exact HBY.out.drew); rintro e wa ⟨px, rfl, nx⟩; have HBX : Hid (Below w1.heap.size w1 wa) := (by first | exact nx.b | exact Lx.out.trans nx.b | exact HBY.out.trans (nx.b.mono HBY.out.size) | exact HBY.out.drew.trans (nx.b.mono HBY.out.size)); have NX := Lib.hid nx; clear nx)
        | (go_at_call 20; (with_reducible refine (HY.out _ ?_).mono ?_); (first | exact Below.refl _ _ | exact Lx.out | exact HBX.out | exact HBX.out.drew); rintro e wb ⟨py, rfl, ny⟩; have HBY : Hid (Below w1.heap.size w1 wb) := (by first | exact ny.b | exact Lx.out.trans ny.b | exact HBX.out.trans (ny.b.mono HBX.out.size) | exact HBX.out.drew.trans (ny.b.mono HBX.out.size)); have NY := Lib.hid ny; clear ny))
    all_goals (go_wp2_with fail; go_meet; first
      | exact ⟨px, py, rfl, rfl, br_xy NX.out NY.out (Below.refl _ _), HBY.out⟩
      | exact ⟨px, py, rfl, rfl, br_xy NX.out NY.out (Below.refl _ _).drew, HBY.out⟩
      | exact ⟨px, py, rfl, rfl, br_yx NY.out NX.out (Below.refl _ _), HBX.out⟩
      | exact ⟨px, py, rfl, rfl, br_yx NY.out NX.out (Below.refl _ _).drew, HBX.out⟩)
  case rest =>
    obtain ⟨px, py, rfl, rfl, hbo, hb1⟩ := hcut
    have HBO := Lib.hid hbo
    have B2 : Hid (Below w.heap.size w wc) := B1.out.trans (hb1.mono B1.out.size)
    clear hbo hb1
    have HFE := Lib.hid (few6_any s1 n1 c1 xs1 wc (HAR.out.below (Nat.le_refl _) B2.out))
    go_wp2_with fail
    refine HFE.out.mono ?_
    rintro e w3 ⟨b, rfl, hb3, hfew⟩
    have B3 : Hid (Below w.heap.size w w3) := B2.out.trans (hb3.mono B2.out.size)
    have L3 := Lib.hid (HBO.out.below (Nat.le_refl _) hb3)
    have HFew := Lib.hid hfew
    clear hb3 hfew
    cases b
    · go_wp2_with fail
      refine (HLV.out _ B3.out).mono ?_
      rintro e w4 ⟨rfl, hb⟩
      go_wp2
      go_ret
      exact ⟨rfl, hb⟩
    have HFE2 := Lib.hid (few6_any s2 n2 c2 xs2 w3 (HAR2.out.below (Nat.le_refl _) B3.out))
    go_wp2_with fail
    refine HFE2.out.mono ?_
    rintro e w4 ⟨b, rfl, hb4, hfew2⟩
    have B4 : Hid (Below w.heap.size w w4) := B3.out.trans (hb4.mono B3.out.size)
    have L4 := Lib.hid (L3.out.below (Nat.le_refl _) hb4)
    have HFew2 := Lib.hid hfew2
    clear hb4 hfew2
    cases b
    · go_wp2_with fail
      refine (HLV.out _ B4.out).mono ?_
      rintro e w5 ⟨rfl, hb⟩
      go_wp2
      go_ret
      exact ⟨rfl, hb⟩
    have HF : Hid (Few6 xs1 n1) := HFew.out (by simp)
    have HF2 : Hid (Few6 xs2 n2) := HFew2.out (by simp)
    have hn500 : n1 ≤ 500 := HF.out.1
    have hn502 : n2 ≤ 500 := HF2.out.1
    go_wp2
    go_loopw [47] (fun i wr => ∃ (k : Nat) (p q : Pl) (m : Mp ByteArray), k ≤ n1 ∧ i = .int .i64 k ∧ p.b = px.b ∧ q.b = py.b ∧ BR w1.heap.size wr p q a0 b0 m m ∧ Below w.heap.size w wr) (fun i _ => n1 - (intOf i).toNat)
    case atStart => exact ⟨0, px, py, _, by omega, rfl, rfl, rfl, L4.out, B4.out⟩
    case round =>
      obtain ⟨k, p, q, m, hk, rfl, hp, hq, hbr, hB⟩ := hrel
      have HBR := Lib.hid hbr
      have HB := Lib.hid hB
      have HP := Lib.hid hp
      have HQ := Lib.hid hq
      clear hbr hB hp hq
      by_cases hlt : k < n1
      · have hd2 : decide ((k : Int) < (n1 : Int)) = true := decide_eq_true (by omega)
        have hkn : (k : Int) < (n1 : Int) := by omega
        obtain ⟨b, off, rfl, x0, x1, x2⟩ := (HAR.out.below (Nat.le_refl _) HB.out).act hlt
        obtain ⟨x, hx⟩ : ∃ x, x = xs1.getD k default := ⟨_, rfl⟩
        have hxk : x.key.size ≤ maxLen := by
          have h1 := (HF.out.2 k hlt).1
          rw [← hx] at h1
          exact Nat.le_trans (Nat.le_of_lt h1) (by decide : 40000 ≤ maxLen)
        rw [← hx] at x0 x1 x2
        have HXK := Lib.hid hxk
        clear hx hxk
        obtain ⟨wA, hwA⟩ : ∃ wA, wA = wr.alloc (.cells #[.int .i64 x.k, .string x.key, .string x.val] 45) := ⟨_, rfl⟩
        have BA : Hid (Below wr.heap.size wr wA) := by rw [hwA]; exact (Below.refl _ wr).alloc (Nat.le_refl _) _
        have BX : Hid (Below w.heap.size w wA) := HB.out.trans (BA.out.mono HB.out.size)
        have LA := Lib.hid (HBR.out.below (Nat.le_refl _) BA.out)
        obtain ⟨X, hX⟩ : ∃ X, X = wr.heap.size := ⟨_, rfl⟩
        have y1 : wA.cell? ⟨X, 1, none⟩ = some (.string x.key) := by rw [hwA, hX]; simp
        have y2 : wA.cell? ⟨X, 2, none⟩ = some (.string x.val) := by rw [hwA, hX]; simp
        have HOX : Hid (¬ owns p q X) := fun e => by have := HBR.out.lt X e; omega
        have HXX := Lib.hid hX
        have HWA := Lib.hid hwA
        have hpx := LA.out.putX x.key x.val HXK.out
        rw [HP.out] at hpx
        have HPX := Lib.hid hpx
        clear hwA hX hpx
        go_upto_region 7 with fail
        rw [← HWA.out, ← HXX.out]
        clear x0 x1 x2
        go_wp2_with fail
        refine HPX.out.mono ?_
        rintro e w5 ⟨rfl, p5, hp5, hb5, hs5⟩
        have BR5 := Lib.hid hb5
        have S5 := Lib.hid hs5
        have HP5 := Lib.hid hp5
        have z1 := hs5.cell y1 HOX.out
        have z2 := hs5.cell y2 HOX.out
        have hpy := BR5.out.putY x.key x.val HXK.out
        rw [HQ.out] at hpy
        have HPY := Lib.hid hpy
        clear hpy hp5 hb5 hs5
        go_wp2_with fail
        refine HPY.out.mono ?_
        rintro e w6 ⟨rfl, q6, hq6, hb6, hs6⟩
        have BR6 := Lib.hid hb6
        have S6 := Lib.hid (S5.out.trans hs6)
        have HQ6 := Lib.hid hq6
        clear hq6 hb6 hs6 z1 z2
        go_wp2_with fail
        go_roundw
        case rel => exact ⟨k + 1, p5, q6, _, by omega, by go_num, HP5.out, HQ6.out, BR6.out, BX.out.trans ((LA.out.low S6.out).mono HLO.out)⟩
        case measure => simp [intOf]; omega
      · obtain rfl : k = n1 := by omega
        have hd2 : decide ((k : Int) < (k : Int)) = false := decide_eq_false (by omega)
        obtain ⟨wC, hwC⟩ : ∃ wC, wC = wr := ⟨_, rfl⟩
        rw [← hwC] at HBR HB ⊢
        clear hwC
        have hwn := MS.wnew_r p a0 b0 m wC HBR.out.x.at_ HBR.out.x.inv
        rw [HP.out] at hwn
        have HWN := Lib.hid hwn
        clear hwn
        go_wp2_with fail
        refine HWN.out.mono ?_
        rintro e w5 ⟨b1, rfl, hwk, hb5⟩
        have WK5 := Lib.hid hwk
        have HB5 := Lib.hid hb5
        have BR5 := Lib.hid (HBR.out.below (Nat.le_refl _) hb5)
        have hqn := RM.qnew_any q a0 b0 m w5 BR5.out.y.at_ BR5.out.y.inv
        rw [HQ.out] at hqn
        have HQN := Lib.hid hqn
        clear hqn hwk hb5
        go_wp2_with fail
        refine HQN.out.mono ?_
        rintro e w6 ⟨b2, rfl, hqk, hb6⟩
        have W6 : Hid (WW w1.heap.size wC.heap.size w5.heap.size w6.heap.size b1 b2 px.b py.b w6 p q a0 b0 m (MS.keysL m)) :=
          ⟨BR5.out.below (Nat.le_refl _) hb6, HP.out, HQ.out, fun j hj => .inl (HBR.out.lt j hj), WK5.out.below hb6, hqk, fun u hu => by
            obtain ⟨v, hv⟩ := MS.mem_keysL.1 hu
            exact HBR.out.x.keys _ _ hv, ⟨HBR.out.x.le, HB5.out.size, hb6.size, Nat.le_refl _⟩⟩
        have B6 : Hid (Below w.heap.size w w6) := (HB.out.trans (HB5.out.mono HB.out.size)).trans (hb6.mono (Nat.le_trans HB.out.size HB5.out.size))
        obtain ⟨wS, hwS⟩ : ∃ wS, wS = wC.heap.size := ⟨_, rfl⟩
        obtain ⟨h1, hh1⟩ : ∃ h1, h1 = w5.heap.size := ⟨_, rfl⟩
        obtain ⟨h2, hh2⟩ : ∃ h2, h2 = w6.heap.size := ⟨_, rfl⟩
        rw [← hwS, ← hh1, ← hh2] at W6
        clear hqk hb6 hwS hh1 hh2
        go_wp2
        go_loopw [70] (fun i wr => ∃ (k : Nat) (p q : Pl) (m : Mp ByteArray) (l : List ByteArray), k ≤ n2 ∧ i = .int .i64 k ∧ WW w1.heap.size wS h1 h2 b1 b2 px.b py.b wr p q a0 b0 m l ∧ Below w.heap.size w wr) (fun i _ => n2 - (intOf i).toNat)
        case atStart => exact ⟨0, p, q, m, _, by omega, rfl, W6.out, B6.out⟩
        case round =>
          obtain ⟨k, p, q, m, l, hk, rfl, hww, hB⟩ := hrel
          have HW := Lib.hid hww
          have HBw := Lib.hid hB
          clear hww hB
          by_cases hlt : k < n2
          · have hd2 : decide ((k : Int) < (n2 : Int)) = true := decide_eq_true (by omega)
            have hkn : (k : Int) < (n2 : Int) := by omega
            obtain ⟨b, off, rfl, x0, x1, x2⟩ := (HAR2.out.below (Nat.le_refl _) HBw.out).act hlt
            obtain ⟨x, hx⟩ : ∃ x, x = xs2.getD k default := ⟨_, rfl⟩
            have hxk : x.key.size ≤ maxLen := by
              have h1 := (HF2.out.2 k hlt).1
              rw [← hx] at h1
              exact Nat.le_trans (Nat.le_of_lt h1) (by decide : 40000 ≤ maxLen)
            rw [← hx] at x0 x1 x2
            have HXK := Lib.hid hxk
            clear hx hxk
            obtain ⟨wA, hwA⟩ : ∃ wA, wA = wr.alloc (.cells #[.int .i64 x.k, .string x.key, .string x.val] 45) := ⟨_, rfl⟩
            have BA : Hid (Below wr.heap.size wr wA) := by rw [hwA]; exact (Below.refl _ wr).alloc (Nat.le_refl _) _
            have BX : Hid (Below w.heap.size w wA) := HBw.out.trans (BA.out.mono HBw.out.size)
            have WA := Lib.hid (HW.out.below BA.out)
            obtain ⟨X, hX⟩ : ∃ X, X = wr.heap.size := ⟨_, rfl⟩
            have y0 : wA.cell? ⟨X, 0, none⟩ = some (.int .i64 x.k) := by rw [hwA, hX]; simp
            have y1 : wA.cell? ⟨X, 1, none⟩ = some (.string x.key) := by rw [hwA, hX]; simp
            have y2 : wA.cell? ⟨X, 2, none⟩ = some (.string x.val) := by rw [hwA, hX]; simp
            have HOX : Hid (¬ owns p q X) := fun e => by have := HW.out.br.lt X e; omega
            have HXX := Lib.hid hX
            have HWA := Lib.hid hwA
            clear hwA hX
            go_upto_region 14 with fail
            rw [← HWA.out, ← HXX.out]
            clear x0 x1 x2
            go_upto_block 4 with fail
            go_cut [] (fun wx => ∃ (p : Pl) (q : Pl) (m : Mp ByteArray) (l : List ByteArray), WW w1.heap.size wS h1 h2 b1 b2 px.b py.b wx p q a0 b0 m l ∧ Below w.heap.size w wx)
            case first =>
              by_cases h0 : x.k = 0
              · have d0 : (x.k == 0) = true := by simpa using h0
                clear h0
                have hp := WA.out.br.putX x.key x.val HXK.out
                rw [WA.out.hp] at hp
                have HP := Lib.hid hp
                clear hp
                go_wp2_with fail
                refine HP.out.mono ?_
                rintro e w4 ⟨rfl, p4, hp4, hb4, hs4⟩
                have BR4 := Lib.hid hb4
                have S4 := Lib.hid hs4
                have HP4 := Lib.hid (hp4.trans WA.out.hp.symm)
                have z1 := hs4.cell y1 HOX.out
                have z2 := hs4.cell y2 HOX.out
                have hpy := BR4.out.putY x.key x.val HXK.out
                rw [WA.out.hq] at hpy
                have HPY := Lib.hid hpy
                clear hpy hp4 hb4 hs4
                go_wp2_with fail
                refine HPY.out.mono ?_
                rintro e w5 ⟨rfl, q5, hq5, hb5, hs5⟩
                have S5 := Lib.hid (S4.out.trans hs5)
                have W5 := Lib.hid (WA.out.step hb5 S5.out HP4.out (hq5.trans WA.out.hq.symm))
                clear hq5 hb5 hs5 z1 z2
                go_wp2
                go_meet
                exact ⟨p4, q5, _, l, W5.out, BX.out.trans ((WA.out.br.low S5.out).mono HLO.out)⟩
              · have d0 : (x.k == 0) = false := by simpa using h0
                clear h0
                by_cases h1 : x.k = 1
                · have d1 : (x.k == 1) = true := by simpa using h1
                  clear h1
                  have hp := WA.out.br.delX x.key HXK.out
                  rw [WA.out.hp] at hp
                  have HP := Lib.hid hp
                  clear hp
                  go_wp2_with fail
                  refine HP.out.mono ?_
                  rintro e w4 ⟨rfl, p4, hp4, hb4, hs4⟩
                  have BR4 := Lib.hid hb4
                  have S4 := Lib.hid hs4
                  have HP4 := Lib.hid (hp4.trans WA.out.hp.symm)
                  have z1 := hs4.cell y1 HOX.out
                  have hpy := BR4.out.delY x.key HXK.out
                  rw [WA.out.hq] at hpy
                  have HPY := Lib.hid hpy
                  clear hpy hp4 hb4 hs4
                  go_wp2_with fail
                  refine HPY.out.mono ?_
                  rintro e w5 ⟨rfl, q5, hq5, hb5, hs5⟩
                  have S5 := Lib.hid (S4.out.trans hs5)
                  have W5 := Lib.hid (WA.out.step hb5 S5.out HP4.out (hq5.trans WA.out.hq.symm))
                  clear hq5 hb5 hs5 z1
                  go_wp2
                  go_meet
                  exact ⟨p4, q5, _, l, W5.out, BX.out.trans ((WA.out.br.low S5.out).mono HLO.out)⟩
                · have d1 : (x.k == 1) = false := by simpa using h1
                  clear h1
                  by_cases h2' : x.k = 2
                  · have d2 : (x.k == 2) = true := by simpa using h2'
                    clear h2'
                    have H1 := Lib.hid WA.out.next1
                    obtain ⟨nl, hnl⟩ : ∃ nl, nl = MS.nextL (hashN a0 b0) m l := ⟨_, rfl⟩
                    have H2 : Hid (∀ w', Kept (· = b1) wA w' → Calls Tryd.prog 28 #[.pointer (some ⟨b2, 0, none⟩)] w' fun e w2 => e = .returned (.tuple #[.string nl.1.1, .string nl.1.2.1, .bool nl.1.2.2]) ∧ RM.Wq w2 (fun j => h1 ≤ j ∧ j < h2) b2 py.b nl.2 ∧ Kept (· = b2) w' w2) := by rw [hnl]; exact fun w' hk => WA.out.next2 hk
                    rw [← hnl] at H1
                    have HNL := Lib.hid hnl
                    clear hnl
                    obtain ⟨⟨t1, t2, t3⟩, l2⟩ := nl
                    dsimp only at H1 H2
                    go_wp2_with fail
                    refine H1.out.mono ?_
                    rintro e w4 ⟨rfl, hx4, hk4⟩
                    have HX4 := Lib.hid hx4
                    have HK4 := Lib.hid hk4
                    clear hx4 hk4
                    go_wp2_with fail
                    refine (H2.out _ HK4.out).mono ?_
                    rintro e w5 ⟨rfl, hy5, hk5⟩
                    have W5 : Hid (WW w1.heap.size wS h1 h2 b1 b2 px.b py.b w5 p q a0 b0 m l2) := by
                      have e2 : l2 = (MS.nextL (hashN a0 b0) m l).2 := by rw [← HNL.out]
                      show WW _ _ _ _ _ _ _ _ _ _ _ _ _ _ _
                      have hx4 := HX4.out
                      rw [e2] at hx4 hy5 ⊢
                      exact WA.out.nexts hx4 HK4.out hy5 hk5
                    have L5 : Hid (Below w1.heap.size wA w5) := (WA.out.low1 HK4.out).trans (WA.out.low2 HK4.out.size hk5)
                    clear hy5 hk5
                    go_wp2
                    go_meet
                    exact ⟨p, q, m, l2, W5.out, BX.out.trans (L5.out.mono HLO.out)⟩
                  · have d2 : (x.k == 2) = false := by simpa using h2'
                    clear h2'
                    go_wp2
                    go_meet
                    exact ⟨p, q, m, l, WA.out, BX.out⟩
            case rest =>
              obtain ⟨p2, q2, m2, l2, hw2, hB2⟩ := hcut
              have HW2 := Lib.hid hw2
              have HB2 := Lib.hid hB2
              obtain ⟨ax, cx, hcx⟩ := hw2.cell
              have SL : Hid (∀ W, Kept (fun _ => False) wc W → W.cell? ⟨b2, 1, none⟩ = some (.slice ax l2.length cx)) := by
                show ∀ W, _
                intro W hW
                exact kept_cell hW hcx (fun h => h)
              have HLF : Hid (∀ W, Kept (fun _ => False) wc W → Calls Tryd.prog 29 #[.pointer (some ⟨b1, 0, none⟩)] W fun e w' => e = .returned (.int .i64 (l2.length : Nat)) ∧ W = w') := by
                show ∀ W, _
                intro W hW
                exact MS.left_r _ b1 px.b l2 W (HW2.out.x.kept hW (fun _ _ h => h))
              clear hw2 hB2 hcx
              go_upto_region 26 with fail
              go_region_held3 (fun W => W.cell? ⟨b2, 1, none⟩ = some (.slice ax l2.length cx))
                (first | (refine SL.out _ ?_; repeat (first | exact Kept.refl _ _ | refine Kept.drew ?_)))
                (first
                  | (go_at_call 29; (with_reducible refine (HLF.out _ ?_).mono ?_); (repeat (first | exact Kept.refl _ _ | refine Kept.drew ?_)); rintro e w' ⟨rfl, rfl⟩))
              all_goals (
                have WX : Hid (WW w1.heap.size wS h1 h2 b1 b2 px.b py.b wc.drew p2 q2 a0 b0 m2 l2) := HW2.out.below (Below.refl _ _).drew
                have BX2 : Hid (Below w.heap.size w wc.drew) := HB2.out.drew
                go_wp2_with fail
                go_roundw
                case rel => first | exact ⟨k + 1, p2, q2, m2, l2, by omega, by go_num, WX.out, BX2.out⟩ | exact ⟨k + 1, p2, q2, m2, l2, by omega, by go_num, HW2.out, HB2.out⟩
                case measure => simp [intOf]; omega)
          · obtain rfl : k = n2 := by omega
            have hd2 : decide ((k : Int) < (k : Int)) = false := decide_eq_false (by omega)
            go_wp2_with fail
            refine (HLV.out _ HBw.out).mono ?_
            rintro e w4 ⟨rfl, hb⟩
            go_wp2
            go_ret
            exact ⟨rfl, hb⟩

theorem lifted (os : Os) (started : os.Started) (H : Type) (enc : TypeId × Value → H) :
    ReturnsInHanded {} Tryd.checked os 4 .any (fun w args => (Rows.walkActsSpec.pre enc Tryd.prog Tryd.f4 [] false w args ∧ laidMetH Tryd.prog [("corbel/group.shifts", Rows.laid_corbel_group_shifts)] w) ∧ sizedMet enc Tryd.prog Tryd.f4 (OpenSpec.ofChange Rows.walkActsSpec) false w args)
      (Rows.walkActsSpec.post enc Tryd.prog Tryd.f4 false true false false) := by
  refine returnsInHanded_of_change_and (C := Tryd.checked) (X := fun w _ => laidMetH Tryd.prog [("corbel/group.shifts", Rows.laid_corbel_group_shifts)] w) (fun _ _ _ hh h => h.of_heap hh) own started (by kernel_rfl) Tryd.func4
    (ChangeSpec.witness_at (enc := enc) (C := Tryd.checked) (os := os) (X := fun w _ => laidMetH Tryd.prog [("corbel/group.shifts", Rows.laid_corbel_group_shifts)] w) false (laidWorld os) #[.agg #[.int .u64 0, .int .u64 0], .slice none 0 0, .slice none 0 0] 8 rfl (by kernel_rfl) (by kernel_rfl) (by kernel_rfl) (by kernel_rfl) (by kernel_rfl) (laidWorld_met os _)) ?_
  intro W base args ds gs before hval0 hW hcnd hsz0 hL _
  have hsz : (DataW.weightsEach Tryd.prog (Tryd.f4.params.toList ++ Rows.walkActsSpec.plain.varTypes Tryd.prog) (ds ++ gs)).all (· ≤ reachBytes) = true := hsz0
  clear hsz0
  have hval : ∀ (j : Nat) t v, Tryd.f4.params[j]? = some t → args[j]? = some v → Value.okWide Tryd.prog W .any base t v := hval0
  have hW' := hW
  obtain ⟨p, q, hA0, hV, rfl, hfz, hnd⟩ := hW
  have hA : DataW.TrodAll enc Tryd.prog W 0 (fun _ => true) true Tryd.f4.params.toList args.toList ds p := hA0
  rw [Tryd.params4] at hA hval hsz
  obtain ⟨v0, vs0, d0, ds0, p0, q0, hargs, rfl, rfl, h0, r0⟩ := trodAll_cons hA
  obtain ⟨v1, vs1, d1, ds1, p1, q1, rfl, rfl, rfl, h1, r1⟩ := trodAll_cons r0
  obtain ⟨v2, vs2, d2, ds2, p2, q2, rfl, rfl, rfl, h2, r2⟩ := trodAll_cons r1
  obtain ⟨rfl, rfl, rfl⟩ := trodAll_nil r2
  obtain rfl : args = #[v0, v1, v2] := by cases args; simp_all
  obtain ⟨rfl, rfl⟩ := trodVars_none hV
  have hfit0 := fun q hq => of_decide_eq_true (List.all_eq_true.1 hsz q hq)
  clear hsz
  obtain ⟨F0, hfit1⟩ := fit_cons hfit0
  obtain ⟨a0, b0, rfl, rfl, rfl⟩ := open_key (hval 0 24 v0 rfl rfl) h0
  obtain ⟨F1, hfit2⟩ := fit_cons hfit1
  have k1 := h1
  have lt1 : ∀ x ∈ p1, x.block < W.heap.size := by obtain ⟨m, hm⟩ := k1; exact DataW.trod_lt m _ _ _ hm
  obtain ⟨s1, n1, c1, xs1, rfl, ar1⟩ := open_acts6 (hval 1 41 v1 rfl rfl) h1 F1
  obtain ⟨F2, hfit3⟩ := fit_cons hfit2
  have k2 := h2
  have lt2 : ∀ x ∈ p2, x.block < W.heap.size := by obtain ⟨m, hm⟩ := k2; exact DataW.trod_lt m _ _ _ hm
  obtain ⟨s2, n2, c2, xs2, rfl, ar2⟩ := open_acts6 (hval 2 41 v2 rfl rfl) h2 F2
  clear hA0 hval0
  try simp only [List.append_nil] at hW'
  refine (walk W (sh_of_laid hL) a0 b0 s1 n1 c1 xs1 ar1 s2 n2 c2 xs2 ar2).mono fun e W' ⟨he, hg⟩ => ?_
  subst he
  exact ⟨_, rfl, _, _, _, [], _, [], hW', (trodAll_cons_mk (shut_bool Tryd.underlying4 _) trodAll_mk0), (trodAll_cons_mk (shut_key a0 b0) (trodAll_cons_mk (Below.trod laidOut (by kernel_rfl) (of_decide_eq_true (by kernel_rfl)) k1 hg lt1) (trodAll_cons_mk (Below.trod laidOut (by kernel_rfl) (of_decide_eq_true (by kernel_rfl)) k2 hg lt2) trodAll_mk0))), rfl, hg.frame _, fun h => by cases h⟩

theorem over : Rows.walkActsRow.holds Tryd.pinned (OpenSpec.ofChange Rows.walkActsSpec) :=
  OpenClaim.holds_of_wide 4 Tryd.f4 rfl rfl rfl rfl rfl rfl rfl ⟨rfl, rfl, rfl, rfl, rfl⟩ rfl rfl rfl rfl rfl (by kernel_rfl) Tryd.func4 (by kernel_rfl)
    (of_decide_eq_true (by kernel_rfl)) (by unfold Func.isWrapper; first | (rw [if_pos (by decide +kernel)]; kernel_rfl) | (rw [if_neg (by decide +kernel)]; exact ⟨rfl, rfl⟩))
    (fun os started H enc _ => lifted os started H enc)

/-- ████ THE STATEMENT ████ -/
theorem proved : Rows.WalkActsCardSaid :=
  Claim7.holds_tied_plain_at .later [] [.data] true (true, "7e67664e74d41973af7dd467c0ac8d15e139965457cce989b794987f38f310ec") false
    over (fun _ h => by cases h) (by kernel_rfl) (fun _ h => by cases h) walkActs_row_tie rfl ⟨rfl, rfl⟩ (by kernel_rfl) rfl
    (fun f fn hf hfn => by
      obtain rfl : f = 4 := Option.some.inj ((show Tryd.prog.funcNamed "corbel/corbellaw06.WalkActs" = some 4 by kernel_rfl).symm.trans hf) |>.symm
      obtain rfl : fn = Tryd.f4 := (Option.some.inj (Tryd.func4.symm.trans hfn)).symm
      refine ⟨by kernel_rfl, fun j t ht => ?_⟩
      have hm := Array.mem_of_getElem? ht
      rw [Tryd.params4] at hm
      simp only [List.mem_toArray, List.mem_cons, List.not_mem_nil, or_false] at hm
      rcases hm with rfl | rfl | rfl
      · exact (show Tryd.prog.wantsStandIn 24 = false by kernel_rfl)
      · exact (show Tryd.prog.wantsStandIn 41 = false by kernel_rfl)
      · exact (show Tryd.prog.wantsStandIn 41 = false by kernel_rfl))
    (by kernel_rfl)
#print axioms proved
end Go.Proofs.YtcooapflofiolaaDoor.walkActs
