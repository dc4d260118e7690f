/- Keys, over maps of integers. -/
import Derived.Test.YtcooapflofiolaaDoorMICopy
namespace Go.Proofs.YtcooapflofiolaaDoor.MI
open Go Go.RowKit Go.Shelf
set_option linter.unusedVariables false
set_option linter.unusedSimpArgs false
set_option maxRecDepth 100000
set_option maxHeartbeats 4000000
def keysL (m : Mp VT) : List ByteArray := (fullL m).map (·.1)
theorem keys_any (p : Pl) (k0 k1 : BitVec 64) (m : Mp VT) (w : World) (h : At w p k0 k1 m) (I : MInv (hashN k0 k1) m) :
    Calls Tryd.prog 60 #[.pointer (some ⟨p.b, 0, none⟩)] w fun e w' => ∃ v, e = .returned v ∧ w'.ownsRow w.heap.size 9 1 v m.n (textsV (keysL m)) ∧ Below w.heap.size w w' := by
  have HM := Lib.hid (made_any p k0 k1 m w h I.len.1)
  have HF := Lib.hid (fulls_any p k0 k1 m w h I)
  have hmx := I.mx
  have HFL := Lib.hid (full_len I)
  obtain ⟨s, hs⟩ : ∃ s, s = w.heap.size := ⟨_, rfl⟩
  have HS := Lib.hid hs
  obtain ⟨i0, hi, hz0, hz1, hz2⟩ := info_parts infoT
  clear h I hs
  go_enter Tryd.func60, Tryd.ntmps60
  go_wp2_with fail
  refine HM.out.mono ?_
  rintro e w' ⟨rfl, rfl⟩
  go_wp2_with fail
  refine HF.out.mono ?_
  rintro e w1 ⟨v, rfl, h1, h2⟩
  obtain ⟨va, vc, rfl, hvc⟩ := own_val h1
  have H1 := Lib.hid h1
  have H2 : Hid (Below s w w1) := by rw [← HS.out] at h2; exact h2
  clear h1 h2
  go_wp2
  have HKL : Hid ((keysL m).length = m.n) := by show _ = _; unfold keysL; rw [List.length_map, HFL.out]
  go_loopw [3, 11] (fun v i wr => ∃ k : Nat, k ≤ m.n ∧ i = .int .i64 k ∧ wr.ownsRow w1.heap.size 9 1 v k (textsV ((keysL m).take k)) ∧ Below w1.heap.size w1 wr) (fun _ i _ => m.n - (intOf i).toNat)
  case atStart => exact ⟨0, Nat.zero_le _, rfl, World.ownsRow_nil _ _ _ _, Below.refl _ _⟩
  case round =>
    obtain ⟨k, hk, rfl, hrow, hB⟩ := hrel
    have HR := Lib.hid hrow
    have HB := Lib.hid hB
    clear hrow hB
    by_cases hlt : k < m.n
    · have hlt' : decide ((k : Int) < (m.n : Int)) = true := decide_eq_true (by omega)
      obtain ⟨g, cap, hv, _, _, hg, hcells⟩ := own_read H1.out (by omega)
      injection hv with hva _ hvc'
      subst hva
      have hat := flatS_at val (fullL m) k (by rw [HFL.out]; exact hlt)
      have s0 := low_cell HB.out (Nat.le_refl _) (hcells _ _ hat.1)
      have s1 := low_cell HB.out (Nat.le_refl _) (hcells _ _ hat.2)
      have hgr : g < wr.heap.size := cell_lt s0
      obtain ⟨x, hx⟩ : ∃ x, x = (fullL m).getD k default := ⟨_, rfl⟩
      rw [← hx] at s0 s1
      have HX := Lib.hid hx
      have hlt2 : (k : Int) < (m.n : Int) := by omega
      clear hcells hat hx hvc'
      have LX : Hid (Below wr.heap.size wr ((wr.alloc (.cells #[.string x.1, val x.2] 135)).alloc (.cells #[.string x.1] 9))) := ((Below.refl _ wr).alloc (Nat.le_refl _) _).alloc (by simp) _
      have hnew : ∀ j u, [Value.string x.1][j]? = some u → ((wr.alloc (.cells #[.string x.1, val x.2] 135)).alloc (.cells #[.string x.1] 9)).cell? (Addr.add ⟨wr.heap.size + 1, 0, none⟩ j) = some u := fun j u h => by
        match j with
        | 0 => simp at h; subst h; rw [Addr.add_lit]; simp
        | j + 1 => simp at h
      obtain ⟨v', w', hr, h2, h3, _, h5⟩ := run_append_own_at (P := Tryd.prog) ((wr.alloc (.cells #[.string x.1, val x.2] 135)).alloc (.cells #[.string x.1] 9)) w1.heap.size 30 30 9 i0 _ 1 16 Tryd.underlying30 hi hz0 hz1 hz2 rfl (by decide) u3 k _ (own_below HR.out (Nat.le_refl _) LX.out) ⟨wr.heap.size + 1, 0, none⟩ 1 1 [.string x.1] rfl hnew (by simp [Value.oneCell']) (by simp only [maxLen]; omega) (by omega) (by have := HB.out.size; have := LX.out.size; omega)
      have HA := Lib.hid hr
      have HO := Lib.hid h2
      have HB2 : Hid (Below w1.heap.size w1 w') := (HB.out.trans (LX.out.mono HB.out.size)).grown h3 (by have := HB.out.size; have := LX.out.size; omega) (fun r er => (HR.out.lt r er).1)
      clear hr h2 h3 h5 hnew
      go_wp2_with (at_builtin; refine wpList_runT 30 rfl _ _ rfl _ _ rfl rfl _ _ HA.out ?_)
      go_roundw
      case rel =>
        refine ⟨k + 1, by omega, by go_num, ?_, HB2.out⟩
        have hk1 : (keysL m).take (k + 1) = (keysL m).take k ++ [x.1] := by
          rw [List.take_succ_eq_append_getElem (by rw [HKL.out]; exact hlt)]
          congr 2
          unfold keysL
          rw [HX.out, List.getElem_map, List.getD_eq_getElem?_getD, List.getElem?_eq_getElem (by rw [HFL.out]; exact hlt)]; rfl
        have := HO.out
        rw [hk1]
        simpa [textsV] using this
      case measure => simp [intOf]; omega
    · have hlt' : decide ((k : Int) < (m.n : Int)) = false := decide_eq_false (by omega)
      obtain rfl : k = m.n := by omega
      go_wp2
      refine bodyPost_ret (v := u3) ?_ rfl ⟨_, rfl, ?_, ?_⟩
      · simp [results, Tryd.results60, go_sem]
      · have := HR.out
        rw [← HKL.out, List.take_length, HKL.out] at this
        exact own_weak this (by rw [← HS.out]; exact Nat.le_trans (Nat.le_of_eq HS.out) H2.out.size)
      · rw [← HS.out]; exact H2.out.trans (HB.out.mono (Nat.le_trans (Nat.le_of_eq HS.out) H2.out.size))
end Go.Proofs.YtcooapflofiolaaDoor.MI
