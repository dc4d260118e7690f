/- Conf of the document's log. -/
import Derived.Test.YtbgfpmnicpmieaaEKs
namespace Go.Proofs.Ytbgfpmnicpmieaa
open Go Go.RowKit Go.Shelf Go.Sort
set_option linter.unusedVariables false
set_option linter.unusedSimpArgs false
set_option maxRecDepth 100000
set_option maxHeartbeats 1000000
/-- The last entry of the kind 3 among the first ones, or none. -/
def cnfN (es : List Ent) : Nat → Ent
  | 0 => default
  | j + 1 => if (es.getD j default).k = 3 then es.getD j default else cnfN es j
def cnfE (es : List Ent) : Ent := cnfN es es.length
theorem pair_set (s : Nat) (wr : World) (v u v' u' : Value) (h : wr.heap[s]? = some (.cells #[v, u] 35 (0, 0))) :
    ((wr.setCell ⟨s, 0, none⟩ v').setCell ⟨s, 1, none⟩ u').cell? ⟨s, 0, none⟩ = some v' ∧ ((wr.setCell ⟨s, 0, none⟩ v').setCell ⟨s, 1, none⟩ u').cell? ⟨s, 1, none⟩ = some u' := by
  have h1 := heap_setCell_same wr s 0 _ 35 v' h
  have h2 := heap_setCell_same _ s 1 _ 35 u' h1
  constructor <;> simp [World.cell?, h2]
theorem refconf_any (m b : Nat) (l : Lg) (es : List Ent) (w : World) (hg : RG w m b l es) (hsm : l.n ≤ 1000) :
    Calls Try.prog 57 #[.pointer (some ⟨b, 0, none⟩)] w fun e w' => e = .returned (.tuple #[.agg #[.slice (cnfE es).va (cnfE es).vn (cnfE es).vc, .slice (cnfE es).la (cnfE es).ln (cnfE es).lc], .int .i64 (cnfE es).i]) ∧ Below w.heap.size w w' := by
  have HG := Lib.hid hg
  have HEL := Lib.hid hg.len
  have HC : Hid (cnfE es = cnfN es l.n) := by show _ = _; rw [cnfE, HEL.out]
  obtain ⟨X, hX⟩ : ∃ X, X = cnfE es := ⟨_, rfl⟩
  rw [← hX]
  have HX : Hid (X = cnfN es l.n) := by show _ = _; rw [hX, HC.out]
  have h2 := hg.lb.c2
  have hbl := hg.lb.lt
  obtain ⟨s, hs⟩ : ∃ s, s = w.heap.size := ⟨_, rfl⟩
  have HS := Lib.hid hs
  clear hg hX HC hs
  have hw1 : IntKind.i64.wrap ((l.n : Int) - 1) = (l.n : Int) - 1 := IntWalk.i64_in _ (by omega)
  go_enter Try.func57, Try.ntmps57
  go_wp2_with fail
  rw [← HS.out]
  have L0 : Hid (Below s w (w.alloc (.cells #[.slice none 0 0, .slice none 0 0] 35))) := (Below.refl _ _).alloc (Nat.le_of_eq HS.out) _
  have C0 : Hid (∀ wr, Below s w wr → ∀ v u, wr.heap[s]? = some (.cells #[v, u] 35 (0, 0)) → wr.cell? ⟨s, 0, none⟩ = some v ∧ wr.cell? ⟨s, 1, none⟩ = some u ∧ wr.frozen? ⟨s, 0, none⟩ = false ∧ wr.frozen? ⟨s, 1, none⟩ = false) := by
    show ∀ wr, _
    intro wr _ v u h
    exact ⟨by simp [World.cell?, h], by simp [World.cell?, h], by simp [World.frozen?, h], by simp [World.frozen?, h]⟩
  have N0 : Hid ((w.alloc (.cells #[.slice none 0 0, .slice none 0 0] 35)).heap[s]? = some (.cells #[.slice none 0 0, .slice none 0 0] 35 (0, 0))) := by
    show _ = _
    rw [HS.out]; exact heap_alloc_new w _
  go_loopw [3, 4] (fun rv iv wr => ∃ k : Nat, k ≤ l.n ∧ iv = .int .i64 ((k : Int) - 1) ∧ rv = .int .i64 0 ∧ X = cnfN es k ∧ Below s w wr ∧ wr.heap[s]? = some (.cells #[.slice none 0 0, .slice none 0 0] 35 (0, 0))) (fun _ iv _ => (intOf iv + 1).toNat)
  case atStart => exact ⟨l.n, Nat.le_refl _, rfl, rfl, HX.out, L0.out, N0.out⟩
  case round =>
    obtain ⟨k, hk, rfl, rfl, hE, hB, hN⟩ := hrel
    have HE := Lib.hid hE
    have L1 := Lib.hid hB
    obtain ⟨m0, m1, f0, f1⟩ := C0.out wr hB _ _ hN
    have G1 := Lib.hid (HG.out.below (Nat.le_of_eq HS.out.symm) hB)
    have HN := Lib.hid hN
    clear hB hE h2 hN
    cases k with
    | zero =>
      have HF : Hid (X = default) := HE.out
      have d1 : decide (0 ≤ ((0 : Nat) : Int) - 1) = false := decide_eq_false (by omega)
      go_wp2_with fail
      have LE : Hid (Below s w ((wr.setCell ⟨s, 0, none⟩ (.slice none 0 0)).setCell ⟨s, 1, none⟩ (.slice none 0 0))) := (L1.out.setCell (p := ⟨s, 0, none⟩) (Nat.le_refl _) _).setCell (p := ⟨s, 1, none⟩) (Nat.le_refl _) _
      obtain ⟨r0, r1⟩ := pair_set s wr _ _ (.slice none 0 0) (.slice none 0 0) HN.out
      refine bodyPost_ret (v := .tuple #[.agg #[.slice none 0 0, .slice none 0 0], .int .i64 0]) ?_ rfl ?_
      · simp [results, Try.results57, go_sem, r0, r1]
      exact ⟨by rw [HF.out]; rfl, by rw [← HS.out]; exact LE.out⟩
    | succ k =>
      have hlt : k < l.n := by omega
      obtain ⟨bb, off, ea, hc⟩ := HG.out.er.row hlt
      have hkl : k < es.length := by have := HEL.out; omega
      have c2 := G1.out.lb.c2
      rw [ea] at c2
      have HE2 : Hid (X = if (es.getD k default).k = 3 then es.getD k default else cnfN es k) := HE.out
      have q0 := kept_low L1.out (Nat.le_of_eq HS.out.symm) (hc 0 (by omega))
      have q2 := kept_low L1.out (Nat.le_of_eq HS.out.symm) (hc 2 (by omega))
      have q11 := kept_low L1.out (Nat.le_of_eq HS.out.symm) (hc 11 (by omega))
      have q12 := kept_low L1.out (Nat.le_of_eq HS.out.symm) (hc 12 (by omega))
      have hbb : bb < s := by rw [HS.out]; exact cell_block_lt (hc 0 (by omega))
      have hbs : b < s := by rw [HS.out]; exact hbl
      have hcap : l.n ≤ l.c := G1.out.cap
      clear hc ea hkl HE
      generalize es.getD k default = x at *
      simp only [List.getD_cons_zero, List.getD_cons_succ] at q0 q2 q11 q12
      rw [Nat.add_zero] at q0
      have hsub : (((k + 1 : Nat) : Int) - 1) = (k : Int) := by omega
      have d1 : decide (0 ≤ (k : Int)) = true := decide_eq_true (by omega)
      rw [hsub]
      by_cases c3 : x.k = 3
      · have d3 : (x.k == 3) = true := by simpa using c3
        have HF : Hid (X = x) := by show _ = _; rw [HE2.out, if_pos c3]
        have C3 := Lib.hid c3
        clear c3
        go_upto_region 5 with fail
        go_cut [3] (fun v wx => v = .int .i64 x.i ∧ wx = ((wr.setCell ⟨s, 0, none⟩ (.slice x.va x.vn x.vc)).setCell ⟨s, 1, none⟩ (.slice x.la x.ln x.lc)).drew)
        case first =>
          go_region
          all_goals (go_wp2_with fail; go_meet; exact ⟨rfl, rfl⟩)
        case rest =>
          obtain ⟨rfl, rfl⟩ := hcut
          have LE : Hid (Below s w ((wr.setCell ⟨s, 0, none⟩ (.slice x.va x.vn x.vc)).setCell ⟨s, 1, none⟩ (.slice x.la x.ln x.lc))) := (L1.out.setCell (p := ⟨s, 0, none⟩) (Nat.le_refl _) _).setCell (p := ⟨s, 1, none⟩) (Nat.le_refl _) _
          obtain ⟨r0, r1⟩ := pair_set s wr _ _ (.slice x.va x.vn x.vc) (.slice x.la x.ln x.lc) HN.out
          go_wp2_with fail
          refine bodyPost_ret (v := .tuple #[.agg #[.slice x.va x.vn x.vc, .slice x.la x.ln x.lc], .int .i64 x.i]) ?_ rfl ?_
          · simp [results, Try.results57, go_sem, r0, r1]
          exact ⟨by rw [HF.out], by rw [← HS.out]; exact LE.out.drew⟩
      · have d3 : (x.k == 3) = false := by simpa using c3
        have HF : Hid (X = cnfN es k) := by show _ = _; rw [HE2.out, if_neg c3]
        clear c3
        have hw2 : IntKind.i64.wrap ((k : Int) - 1) = (k : Int) - 1 := IntWalk.i64_in _ (by omega)
        go_wp2_with fail
        go_roundw
        case rel => exact ⟨k, by omega, rfl, rfl, HF.out, L1.out, HN.out⟩
        case measure => simp [intOf]
end Go.Proofs.Ytbgfpmnicpmieaa
