/- Reads that wait: Drop, both. -/
import Derived.Test.YtbjhpifllgoffaaRefRdy
namespace Go.Proofs.Ytbjhpifllgoffaa
open Go Go.RowKit Go.Maps Go.MapKept Go.ChangeMaps
set_option linter.unusedVariables false
set_option linter.unusedSimpArgs false
set_option maxRecDepth 100000
set_option maxHeartbeats 4000000
/-- A slice of reads that can be read. -/
def Rr (w : World) (v : Value) (l : List Wt) : Prop :=
  ∃ a c, v = .slice a l.length c ∧ ∀ i, i < l.length → ∃ g off, a = some ⟨g, off, none⟩ ∧ w.cell? ⟨g, off + i * 2, none⟩ = some (.int .i64 (l.getD i (0, 0, 0)).1) ∧ w.cell? ⟨g, off + i * 2 + 1, none⟩ = some (.int .i64 (l.getD i (0, 0, 0)).2.1)
/-- .. of the document's. -/
def Rx (w : World) (v : Value) (l : List Wt) : Prop :=
  ∃ a c, v = .slice a l.length c ∧ ∀ i, i < l.length → ∃ g off, a = some ⟨g, off, none⟩ ∧ w.cell? ⟨g, off + i * 3, none⟩ = some (.int .i64 (l.getD i (0, 0, 0)).1) ∧ w.cell? ⟨g, off + i * 3 + 1, none⟩ = some (.int .i64 (l.getD i (0, 0, 0)).2.1)
theorem rr_own {w : World} {base : Nat} {v : Value} {l : List Wt} (h : w.ownsRow base 41 2 v l.length (rcs l)) : Rr w v l := by
  have h0 := h
  rcases h.2 with ⟨rfl, e⟩ | ⟨g, cap, cur, rfl, hb, hg, h2, h3, h4, h5⟩
  · exact ⟨none, 0, by rw [e], fun i hi => by omega⟩
  · refine ⟨_, cap, rfl, fun i hi => ?_⟩
    obtain ⟨g', cap', e, h1, h2⟩ := row2_at h0 rfl hi
    injection e with e1 e2 e3
    refine ⟨g', 0, e1, by simpa using h1, by simpa using h2⟩
theorem rx_win {w : World} {base : Nat} {v : Value} {l : List Wt} {e : TypeId} (h : Win w base e 3 v l.length (wcs l)) : Rx w v l := by
  obtain ⟨a, c, hv⟩ := h.slice
  refine ⟨a, c, hv, fun i hi => ?_⟩
  obtain ⟨g, off, cap, hv2, _, _, hc⟩ := h.cell (by omega)
  rw [hv] at hv2
  injection hv2 with e1 e2 e3
  have h0 := wcs_at l i 0 hi (by omega)
  have h1 := wcs_at l i 1 hi (by omega)
  exact ⟨g, off, e1, by simpa using hc _ _ h0, by rw [Nat.add_assoc]; exact hc _ _ h1⟩
theorem rx_own {w : World} {base : Nat} {v : Value} {l : List Wt} {e : TypeId} (h : w.ownsRow base e 3 v l.length (wcs l)) : Rx w v l := rx_win (Win.of_own h)
theorem Rr.below {w w' : World} {v : Value} {l : List Wt} {m : Nat} (h : Rr w v l) (hb : Below m w w') (hm : w.heap.size ≤ m) : Rr w' v l := by
  obtain ⟨a, c, e, h⟩ := h
  refine ⟨a, c, e, fun i hi => ?_⟩
  obtain ⟨g, off, e1, h1, h2⟩ := h i hi
  exact ⟨g, off, e1, (hb.cell (Nat.lt_of_lt_of_le (cell_block_lt h1) hm)).trans h1, (hb.cell (Nat.lt_of_lt_of_le (cell_block_lt h2) hm)).trans h2⟩
theorem Rr.blocks {w w' : World} {v : Value} {l : List Wt} {S : Nat → Prop} (h : Rr w v l) (hk : Kept S w w') (hs : ∀ j, v.ownBlock = some j → ¬ S j) : Rr w' v l := by
  obtain ⟨a, c, e, h⟩ := h
  refine ⟨a, c, e, fun i hi => ?_⟩
  obtain ⟨g, off, e1, h1, h2⟩ := h i hi
  subst e1
  have hn : ¬ S g := hs g (by rw [e]; rfl)
  exact ⟨g, off, rfl, kept_cell hk h1 hn, kept_cell hk h2 hn⟩
theorem Rx.blocks {w w' : World} {v : Value} {l : List Wt} {S : Nat → Prop} (h : Rx w v l) (hk : Kept S w w') (hs : ∀ j, v.ownBlock = some j → ¬ S j) : Rx w' v l := by
  obtain ⟨a, c, e, h⟩ := h
  refine ⟨a, c, e, fun i hi => ?_⟩
  obtain ⟨g, off, e1, h1, h2⟩ := h i hi
  subst e1
  have hn : ¬ S g := hs g (by rw [e]; rfl)
  exact ⟨g, off, rfl, kept_cell hk h1 hn, kept_cell hk h2 hn⟩
theorem same_any (v u : Value) (l : List Wt) (w : World) (hv : Rr w v l) (hu : Rx w u l) (hl : l.length ≤ 100000) :
    Calls Try.prog 22 #[v, u] w fun e w' => e = .returned (.bool true) ∧ Below w.heap.size w w' := by
  obtain ⟨a, c, rfl, ha⟩ := hv
  obtain ⟨b, d, rfl, hb⟩ := hu
  have HA := Lib.hid ha
  have HB := Lib.hid hb
  clear ha hb
  obtain ⟨n, hn⟩ : ∃ n, n = l.length := ⟨_, rfl⟩
  rw [← hn] at HA HB hl ⊢
  clear hn
  go_enter Try.func22, Try.ntmps22
  go_wp2_with fail
  go_loopw [5, 13] (fun _ iv wq => ∃ k : Nat, k ≤ n ∧ iv = .int .i64 k ∧ Below w.heap.size w wq) (fun _ iv _ => n - (intOf iv).toNat)
  case atStart => exact ⟨0, Nat.zero_le _, rfl, Below.refl _ _⟩
  case round =>
    obtain ⟨k, hk, rfl, hB⟩ := hrel
    have HBW := Lib.hid hB
    by_cases hlt : k < n
    · have d1 : decide ((k : Int) < (n : Int)) = true := decide_eq_true (by omega)
      have d1' : decide (k < n) = true := decide_eq_true hlt
      obtain ⟨g, off, rfl, h1, h2⟩ := HA.out k hlt
      obtain ⟨g2, off2, rfl, h3, h4⟩ := HB.out k hlt
      have h1' := (hB.cell (cell_block_lt h1)).trans h1
      have h2' := (hB.cell (cell_block_lt h2)).trans h2
      have h3' := (hB.cell (cell_block_lt h3)).trans h3
      have h4' := (hB.cell (cell_block_lt h4)).trans h4
      clear h1 h2 h3 h4 hB
      generalize (l.getD k (0, 0, 0)).1 = y1 at *
      generalize (l.getD k (0, 0, 0)).2.1 = y2 at *
      go_wp2_with fail
      go_quiet (fail)
      go_wp2_with fail
      go_roundw
      case rel => exact ⟨k + 1, by omega, by go_num, below_drewN' HBW.out _⟩
      case measure => simp [intOf]; omega
    · have d1 : decide ((k : Int) < (n : Int)) = false := decide_eq_false (by omega)
      have d1' : decide (k < n) = false := decide_eq_false hlt
      clear hB
      go_wp2_with fail
      go_ret
      exact ⟨rfl, HBW.out⟩
theorem clip_any (a : Option Addr) (n c : Nat) (hn : n ≤ c) (w : World) : Calls Try.prog 33 #[.slice a n c] w fun e w' => e = .returned (.slice a n n) ∧ w = w' := by
  have hr : ∀ W, (Instr.slice 38 (.slice a n c) none (some (.int .i64 (n : Nat))) (some (.int .i64 (n : Nat)))).run Try.prog W = .ok (.slice a n n) W := by
    intro W
    have hs : (sizeOf (Try.prog.elem 38)).run Try.prog W = .ok 2 W := by
      obtain ⟨i0, hi, hz0, hz1, hz2⟩ := info_parts Try.info41
      have he : Try.prog.elem 38 = 41 := by kernel_rfl
      rw [he]
      simp [sizeOf, typeInfo, hi, hz1]
    rw [run_slice_hm W 38 _ n c Try.underlying38 _ _ _ _ (by omega) (by omega) (by omega), hs]
    simp only [Result.andThen_ok, sliced]
    have ha : (a.map fun x => x.add (0 * 2)) = a := by cases a <;> simp [Addr.add]
    simp [ha]
  go_enter Try.func33, Try.ntmps33
  go_wp2_with fail
  go_ret
  exact ⟨rfl, rfl⟩
theorem xdrop_any (x : XP) (lo : Nat) (l : List Wt) (H : List Pr) (w : World) (h : XAt w lo x l H) :
    Calls Try.prog 25 #[.pointer (some ⟨x.b, 0, none⟩)] w fun e w' => e = .returned x.lv ∧ XActed w lo x [] [] w' ∧ Rx w' x.lv l := by
  have HX := Lib.hid h
  obtain ⟨a, c, hv⟩ := h.2.2.1.1.slice
  have hb := h.2.1
  have c0 : w.cell? ⟨x.b, 0, none⟩ = some (.slice a l.length c) := by rw [← hv]; simp [World.cell?, hb]
  have f0 : w.frozen? ⟨x.b, 0, none⟩ = false := by simp [World.frozen?, hb]
  have f1 : w.frozen? ⟨x.b, 1, none⟩ = false := by simp [World.frozen?, hb]
  have f2 : w.frozen? ⟨x.b, 2, none⟩ = false := by simp [World.frozen?, hb]
  have g0 : w.cell? ⟨x.b, 1, none⟩ = some x.fv := by simp [World.cell?, hb]
  have g1 : w.cell? ⟨x.b, 2, none⟩ = some x.sv := by simp [World.cell?, hb]
  have HB := Lib.hid hb
  have HV := Lib.hid hv
  have HRX : Hid (Rx w x.lv l) := rx_win h.2.2.1.1
  clear h hb hv
  go_enter Try.func25, Try.ntmps25
  go_wp2_with fail
  go_ret
  have hS : Kept (fun j => j = x.b) w (((w.setCell ⟨x.b, 0, none⟩ (.slice none 0 0)).setCell ⟨x.b, 1, none⟩ (.slice none 0 0)).setCell ⟨x.b, 2, none⟩ (.slice none 0 0)) :=
    (((Kept.refl (fun j => j = x.b) w).setCell (p := ⟨x.b, 0, none⟩) (.inl rfl) _).setCell (p := ⟨x.b, 1, none⟩) (.inl rfl) _).setCell (p := ⟨x.b, 2, none⟩) (.inl rfl) _
  refine ⟨by rw [HV.out]; rfl, ⟨⟨x.b, .slice none 0 0, .slice none 0 0, .slice none 0 0⟩, rfl, ⟨HX.out.1, (block3_set (block3_set (block3_set HB.out _).1 _).2.1 _).2.2, ⟨Win.nil _ _ _ _, Win.nil _ _ _ _, Win.nil _ _ _ _⟩, ⟨fun j hj => ?_, fun j hj => ?_, fun j hj => ?_⟩, ⟨fun j hj => ?_, fun j hj => ?_⟩, by simp⟩, fun j hj => ?_, hS.weaken fun j e => .inl e⟩, HRX.out.blocks hS fun j hj e => ?_⟩
  · simp [Value.ownBlock] at hj
  · simp [Value.ownBlock] at hj
  · simp [Value.ownBlock] at hj
  · simp [Value.ownBlock] at hj
  · simp [Value.ownBlock] at hj
  · rcases hj with rfl | hj | hj | hj
    · exact .inl (.inl rfl)
    · simp [Value.ownBlock] at hj
    · simp [Value.ownBlock] at hj
    · simp [Value.ownBlock] at hj
  · have := (HX.out.2.2.2.1.1 j hj).1
    omega
theorem run_clear_map {P : Program} {t ty : TypeId} {k e : TypeId} {mb : Nat} {es : Array MapEntry} {clock : Nat} (W : World) (ht : P.underlying t = some (.map k e)) (hb : W.heap[mb]? = some (.map es clock)) :
    (Builtin.clear_ #[t] ty #[.map (some mb)]).run P W = .ok (.tuple #[]) (setBlock W mb (.map #[] clock)) := by
  simp [Builtin.clear_, run_underlying ht, MapKept.run_getObj_map hb, MapKept.run_setObj_map _ hb, Result.andThen, setBlock]
theorem clear_at {w : World} {mb k : Nat} {D : DataW Unit} (h : w.ownsMap Try.prog 3 (plainElem Try.prog 3) mb k D) :
    ∃ w2, (∀ ty, (Builtin.clear_ #[67] ty #[.map (some mb)]).run Try.prog w = .ok (.tuple #[]) w2) ∧ w2.ownsMap Try.prog 3 (plainElem (H := Unit) Try.prog 3) mb 0 (.map []) ∧ Kept (fun j => j = mb) w w2 := by
  obtain ⟨es, clock, hb, F, hs, hD⟩ := h
  refine ⟨_, fun ty => run_clear_map w Try.underlying67 hb, ⟨#[], clock, heap_setBlock_same hb _, ?_, Nat.le_refl _, rfl⟩, ⟨rfl, rfl, rfl, by simp [setBlock], fun j _ hj => heap_setBlock_other hb _ (fun e => hj e)⟩⟩
  exact ⟨by simp, stamped_empty _, by simp⟩
theorem Rr.cap {w : World} {a : Option Addr} {n c : Nat} {l : List Wt} (h : Rr w (.slice a n c) l) (d : Nat) : Rr w (.slice a n d) l := by
  obtain ⟨a', c', e, h⟩ := h
  injection e with e1 e2 e3
  subst e1 e2
  exact ⟨_, d, rfl, h⟩
theorem own_cap {w : World} {base e size n c : Nat} {a : Option Addr} {xs : List Value} (h : w.ownsRow base e size (.slice a n c) n xs) : n ≤ c := by
  rcases h.2 with ⟨e, e0⟩ | ⟨g, cap, cur, e, _, _, h2, _⟩
  · injection e with e1 e2 e3; omega
  · injection e with e1 e2 e3; omega
def Dropp (w : World) (lo : Nat) (p : RP) (l : List Wt) (e : Ending) (w' : World) : Prop :=
  ∃ v, e = .returned v ∧ Rr w' v l ∧ (∀ j, v.ownBlock = some j → w.heap.size ≤ j) ∧ RActed w lo p 0 (fun _ => none) [] w'
theorem drop_any (p : RP) (lo k : Nat) (m : Int → Option Int) (l : List Wt) (w : World) (h : RAt w lo p k m l) (hl : l.length ≤ 2000) :
    Calls Try.prog 24 #[.pointer (some ⟨p.b, 0, none⟩)] w (Dropp w lo p l) := by
  have HR := Lib.hid h
  obtain ⟨a, c, hv⟩ := h.2.2.2.2.1.slice
  have hb := h.2.2.1
  rw [hv] at hb
  have c0 : w.cell? ⟨p.b, 0, none⟩ = some (.slice a l.length c) := by simp [World.cell?, hb]
  have c1 : w.cell? ⟨p.b, 1, none⟩ = some (.map (some p.mb)) := by simp [World.cell?, hb]
  have hbl : p.b < w.heap.size := cell_block_lt c0
  have HB := Lib.hid hb
  have HV := Lib.hid hv
  have HM := Lib.hid (rmade_any p.b p.mb w c1)
  obtain ⟨i0, hi, hz0, hz1, hz2⟩ := info_parts Try.info41
  clear h hb hv
  obtain ⟨n, hn⟩ : ∃ n, n = l.length := ⟨_, rfl⟩
  have HN := Lib.hid hn
  rw [← hn] at c0 HB HV hl
  clear hn
  go_enter Try.func24, Try.ntmps24
  go_wp2_with (go_at_call 30; refine HM.out.mono ?_; rintro e w2 ⟨rfl, rfl⟩)
  have K0 := Lib.hid (And.intro c0 c1)
  clear c0 c1
  go_loopw [3, 5, 14] (fun ov _ iv wq => ∃ (k : Nat) (ov' : Value), k ≤ n ∧ iv = .int .i64 k ∧ ov = ov' ∧ wq.ownsRow w.heap.size 41 2 ov' k (rcs (l.take k)) ∧ Below w.heap.size w wq) (fun _ _ iv _ => n - (intOf iv).toNat)
  case atStart => exact ⟨0, _, Nat.zero_le _, rfl, rfl, World.ownsRow_nil _ _ _ _, Below.refl _ _⟩
  case round =>
    obtain ⟨q, ov, hq, rfl, hov, hrow, hB⟩ := hrel
    have hov2 := hov.symm
    clear hov
    subst hov2
    have HROW := Lib.hid hrow
    have HBW := Lib.hid hB
    have hsz := hB.size
    obtain ⟨oa, oc, hos⟩ := own_sl hrow
    subst hos
    clear hrow hB
    by_cases hlt : q < n
    · have d1 : decide ((q : Int) < (n : Int)) = true := decide_eq_true (by omega)
      have d1' : decide (q < n) = true := decide_eq_true hlt
      obtain ⟨g, off, cap, hve, _, _, hc⟩ := HR.out.2.2.2.2.1.cell (by rw [← HN.out]; omega)
      rw [HV.out] at hve
      injection hve with q1 q2 q3
      have hql : q < l.length := by rw [← HN.out]; exact hlt
      have e0 := hc _ _ (wcs_at l q 0 hql (by omega))
      have e1 := hc _ _ (wcs_at l q 1 hql (by omega))
      have e2 := hc _ _ (wcs_at l q 2 hql (by omega))
      rw [Nat.add_zero] at e0
      rw [← Nat.add_assoc] at e1 e2
      have HT : Hid (rcs (l.take (q + 1)) = rcs (l.take q) ++ rc (l.getD q (0, 0, 0))) := by
        show _ = _
        rw [List.take_succ_eq_append_getElem hql, rcs_snoc, List.getD_eq_getElem?_getD, List.getElem?_eq_getElem hql]; rfl
      generalize l.getD q (0, 0, 0) = t at *
      obtain ⟨t1, t2, t3⟩ := t
      have e0' : wr.cell? ⟨g, off + q * 3, none⟩ = some (.int .i64 t1) := (HBW.out.cell (cell_block_lt e0)).trans e0
      have e1' : wr.cell? ⟨g, off + q * 3 + 1, none⟩ = some (.int .i64 t2) := (HBW.out.cell (cell_block_lt e1)).trans e1
      have e2' : wr.cell? ⟨g, off + q * 3 + 2, none⟩ = some (.int .i64 t3) := (HBW.out.cell (cell_block_lt e2)).trans e2
      have h63 : q + 1 ≤ maxLen := by simp only [maxLen]; omega
      have h64 : (q + 1) * 16 ≤ 140737488355328 := by omega
      subst q1
      clear e0 e1 e2 hc q2 q3
      have RB := Lib.hid (HROW.out.alloc (.cells #[.int .i64 t1, .int .i64 t2, .int .i64 t3] 76))
      have BB : Hid (Below w.heap.size w (wr.alloc (.cells #[.int .i64 t1, .int .i64 t2, .int .i64 t3] 76))) := HBW.out.alloc hsz _
      go_wp2_with (at_builtin; refine wpList_append_own _ rfl _ _ 38 rfl w.heap.size 41 i0 (.agg #[.int .i64 0, .int .i64 0]) 2 16 Try.underlying38 hi hz0 hz1 hz2 rfl (by decide) (.slice oa q oc) q (rcs (l.take q)) rfl (RB.out.alloc _) ⟨wr.heap.size + 1, 0, none⟩ 1 1 [.int .i64 t1, .int .i64 t2] rfl rfl (by { have := new2 (wr.alloc (.cells #[.int .i64 t1, .int .i64 t2, .int .i64 t3] 76)) 41 (.int .i64 t1) (.int .i64 t2); rw [World.size_alloc] at this; exact this }) (by simp [Value.oneCell']) h63 h64 (by simp; omega) ?_; intro v' w3 hw3 hg3 _; have HR3 : Hid (w3.ownsRow w.heap.size 41 2 v' (q + 1) (rcs (l.take (q + 1)))) := (by { show World.ownsRow _ _ _ _ _ _ _; rw [HT.out]; exact hw3 }); have HB3 : Hid (Below w.heap.size w w3) := (BB.out.alloc (by simp; omega) _).grown hg3 (by simp; omega) (fun j e => own_blk HROW.out e); clear hw3 hg3)
      go_roundw
      case rel => exact ⟨q + 1, _, by omega, by go_num, rfl, HR3.out, HB3.out⟩
      case measure => simp [intOf]; omega
    · have d1 : decide ((q : Int) < (n : Int)) = false := decide_eq_false (by omega)
      have d1' : decide (q < n) = false := decide_eq_false hlt
      obtain ⟨k0, k1⟩ := K0.out
      have c0 := (HBW.out.cell (cell_block_lt k0)).trans k0
      have c1 := (HBW.out.cell (cell_block_lt k1)).trans k1
      have hb9 : wr.heap[p.b]? = some (.cells #[.slice a n c, .map (some p.mb)] 69 (0, 0)) := (HBW.out.block _ hbl).trans HB.out
      have f0 : wr.frozen? ⟨p.b, 0, none⟩ = false := by simp [World.frozen?, hb9]
      have hS : Hid (Kept (fun j => j = p.b) wr (wr.setCell ⟨p.b, 0, none⟩ (.slice none 0 0))) := (Kept.refl (fun j => j = p.b) wr).setCell (p := ⟨p.b, 0, none⟩) (.inl rfl) _
      have HB10 : Hid ((wr.setCell ⟨p.b, 0, none⟩ (.slice none 0 0)).heap[p.b]? = some (.cells #[.slice none 0 0, .map (some p.mb)] 69 (0, 0))) := block_set0 hb9
      clear k0 k1 hb9
      go_upto_region 10 with fail
      have c1' : (wr.setCell ⟨p.b, 0, none⟩ (.slice none 0 0)).cell? ⟨p.b, 1, none⟩ = some (.map (some p.mb)) := by simp [World.cell?, HB10.out]
      obtain ⟨w5, hw5⟩ : ∃ w5, w5 = wr.setCell ⟨p.b, 0, none⟩ (.slice none 0 0) := ⟨_, rfl⟩
      rw [← hw5] at hS HB10 c1' ⊢
      have HW5 := Lib.hid hw5
      clear hw5 c0 c1 f0
      obtain ⟨D, hD, hMR⟩ := HR.out.2.2.2.1
      have hpm := HR.out.2.1
      have hOWN : w5.ownsMap Try.prog 3 (plainElem Try.prog 3) p.mb k D := by
        obtain ⟨es, cl, i1, i2, i3, i4⟩ := hD
        have hml := (Array.getElem?_eq_some_iff.1 i1).1
        exact ⟨es, cl, ((hS.out.block _ (by omega) (by omega)).trans (HBW.out.block _ hml)).trans i1, i2, i3, i4⟩
      obtain ⟨w6, hclr, hown6, hK6⟩ := clear_at hOWN
      have HO6 := Lib.hid hown6
      have HK6 := Lib.hid hK6
      clear hown6 hK6 hOWN hD hMR
      go_wp2_with fail
      refine (clip_any oa q oc (own_cap HROW.out) w6).mono ?_
      rintro e w7 ⟨rfl, rfl⟩
      have hqn : q = l.length := by rw [← HN.out]; omega
      have hrow9 : Rr wr (.slice oa q q) l := by
        have h1 := HROW.out
        rw [List.take_of_length_le (by omega)] at h1
        have h2 : Rr wr (.slice oa q oc) l := rr_own (by rw [← hqn]; exact h1)
        exact h2.cap q
      have hoq : ∀ j, (Value.slice oa q q).ownBlock = some j → w.heap.size ≤ j := fun j hj => own_blk HROW.out (j := j) (by have h2 : (Value.slice oa q oc).ownBlock = (Value.slice oa q q).ownBlock := (by cases oa <;> rfl); rw [h2]; exact hj)
      have HRR : Hid (Rr w6 (.slice oa q q) l) := (hrow9.blocks hS.out (fun j hj e => by have := hoq j hj; omega)).blocks HK6.out (fun j hj e => by have := hoq j hj; omega)
      have HOB : Hid (∀ j, (Value.slice oa q q).ownBlock = some j → w.heap.size ≤ j) := hoq
      have HACT : Hid (RActed w lo p 0 (fun _ => none) [] w6) := by
        refine ⟨⟨p.b, p.mb, .slice none 0 0⟩, rfl, rfl, ⟨HR.out.1, hpm, (HK6.out.block _ (Array.getElem?_eq_some_iff.1 HB10.out).1 (by omega)).trans HB10.out, ⟨_, HO6.out, MR.empty⟩, Win.nil _ _ _ _, fun j hj => by simp [Value.ownBlock] at hj⟩, fun j hj => ?_, ?_⟩
        · rcases hj with rfl | rfl | hj
          · exact .inl (.inl rfl)
          · exact .inl (.inr (.inl rfl))
          · simp [Value.ownBlock] at hj
        · exact ((Kept.of (S := p.own) HBW.out (Nat.le_refl _)).trans (hS.out.weaken fun j e => .inl e)).trans (HK6.out.weaken fun j e => .inr (.inl e))
      clear hrow9 hqn hoq
      go_wp2_with fail
      go_ret
      exact ⟨_, rfl, HRR.out, HOB.out, HACT.out⟩
end Go.Proofs.Ytbjhpifllgoffaa
