/- The document's reads: Ready. -/
import Derived.Test.YtbjhpifllgoffaaHeard
import Derived.Test.YtbjhpifllgoffaaWaitS
namespace Go.Proofs.Ytbjhpifllgoffaa
open Go Go.RowKit Go.Maps
set_option linter.unusedVariables false
set_option linter.unusedSimpArgs false
set_option maxRecDepth 100000
set_option maxHeartbeats 4000000
def accS (H : List Pr) (self rd : Int) : List Int := self :: (H.filter fun x => decide (rd ≤ x.2)).map (·.1)
theorem bI_accS {H : List Pr} (h : (H.map (·.1)).Nodup) (self rd n : Int) : bI (accS H self rd) n = whoB (mOf H) rd self n := by
  rw [whoB_eq, atL_mOf rd n h]
  simp only [bI, accS, List.any_cons, List.any_map, List.any_filter]
  congr 1
  clear h
  induction H with
  | nil => rfl
  | cons x H ih => rw [List.any_cons, List.any_cons, ih]; simp [Bool.and_comm]
theorem accS_snoc (H : List Pr) (x : Pr) (self rd : Int) : accS (H ++ [x]) self rd = accS H self rd ++ (if rd ≤ x.2 then [x.1] else []) := by
  unfold accS
  rw [List.filter_append, List.map_append]
  by_cases h : rd ≤ x.2 <;> simp [h]
theorem accS_len (H : List Pr) (self rd : Int) : (accS H self rd).length ≤ H.length + 1 := by
  simp [accS]
  exact List.length_filter_le _ _
theorem maj_accS (V : List Int) {H : List Pr} (h : (H.map (·.1)).Nodup) (self rd : Int) : majG V (bI (accS H self rd)) = rdyF V (mOf H) self rd := by
  unfold rdyF
  exact majG_congr fun x _ => bI_accS h self rd x
def XRdyR (w : World) (lo s : Nat) (x0 : XP) (l : List Wt) (H : List Pr) (f : Int → Bool) (C : Array Value) (p : Nat) (y : XP) (ov : Value) (wr : World) : Prop :=
  p ≤ l.length ∧ rdyN f l = p + rdyN f (l.drop p) ∧ wr.ownsRow (s + 1) 79 3 ov p (wcs (l.take p)) ∧ y.b = x0.b ∧ XAt wr lo y (l.drop p) H ∧ (∀ j, y.own j → x0.own j) ∧ Kept (fun j => j = x0.b) w wr ∧ wr.heap[s]? = some (.cells C 32 (0, 0)) ∧ s < wr.heap.size
def XReady (w : World) (lo : Nat) (x0 : XP) (l : List Wt) (H : List Pr) (f : Int → Bool) (e : Ending) (w' : World) : Prop :=
  ∃ v, e = .returned v ∧ w'.ownsRow w.heap.size 79 3 v (rdyN f l) (wcs (l.take (rdyN f l))) ∧ ∃ y : XP, y.b = x0.b ∧ XAt w' lo y (l.drop (rdyN f l)) H ∧ (∀ j, y.own j → x0.own j) ∧ Kept (fun j => j = x0.b) w w'
section
variable {w wr w' w2 : World} {lo s : Nat} {x0 : XP} {l : List Wt} {H : List Pr} {f : Int → Bool} {C : Array Value} {p : Nat} {y : XP} {ov v' : Value}
theorem XRdyR.below (h : XRdyR w lo s x0 l H f C p y ov wr) (hb : Below wr.heap.size wr w') : XRdyR w lo s x0 l H f C p y ov w' := by
  obtain ⟨hp, hrd, hrow, hqb, hq, hown, hK, hcf, hslt⟩ := h
  have hb0 : Kept (fun _ => False) wr w' := Kept.of hb (Nat.le_refl _)
  refine ⟨hp, hrd, ?_, hqb, hq.kept hb0 (fun _ _ h => h), hown, hK.join hb0 (fun _ h => h) (fun _ _ h => h.elim), (hb.block _ hslt).trans hcf, Nat.lt_of_lt_of_le hslt hb.size⟩
  refine hrow.kept ⟨hb.os, hb.tape, hb.output, hb.size, fun j hj _ => hb.block j hj⟩ ?_ (row := none)
  by_cases h9 : ov.ownBlock = none
  · exact .inl h9
  · exact .inr h9
theorem xrdy_done (h : XRdyR w lo s x0 l H f C p y ov wr) (h0 : rdyN f (l.drop p) = 0) (hs : s = w.heap.size) : XReady w lo x0 l H f (.returned ov) wr := by
  obtain ⟨hp, hrd, hrow, hqb, hq, hown, hK, hcf, hslt⟩ := h
  have e : rdyN f l = p := by omega
  refine ⟨ov, rfl, ?_, y, hqb, ?_, hown, hK⟩
  · rw [e]; exact own_weak' hrow (show w.heap.size ≤ s + 1 by omega)
  · rw [e]; exact hq
theorem xrdy_step {t : Wt} {rest : List Wt} {a a2 : Option Addr} {c : Nat} {o : Obj}
    (h : XRdyR w lo s x0 l H f C p y ov wr) (hd : l.drop p = t :: rest) (hf : f t.2.2 = true) (hqv : y.lv = .slice a (rest.length + 1) c) (hs : s = w.heap.size) (hlt : ∀ j, x0.own j → j < w.heap.size)
    (hW : Win wr (y.b + 1) 79 3 (.slice a2 rest.length (c - 1)) rest.length ((wcs (t :: rest)).drop 3)) (ho : (Value.slice a2 rest.length (c - 1)).ownBlock = (Value.slice a (rest.length + 1) c).ownBlock)
    (hrow : w2.ownsRow (s + 1) 79 3 v' (p + 1) (wcs (l.take p) ++ wc t)) (hg : (wr.alloc o).grownBy w2 ov.ownBlock) :
    w2.cell? ⟨x0.b, 0, none⟩ = some (.slice a (rest.length + 1) c) ∧ w2.frozen? ⟨x0.b, 0, none⟩ = false ∧ XRdyR w lo s x0 l H f C (p + 1) ⟨x0.b, .slice a2 rest.length (c - 1), y.fv, y.sv⟩ v' (w2.setCell ⟨x0.b, 0, none⟩ (.slice a2 rest.length (c - 1))) := by
  obtain ⟨hp, hrd, hrow0, hqb, hq, hown, hK, hcf, hslt⟩ := h
  obtain ⟨h1, h2, h3⟩ := drop_succ_of hd
  have hbs : ∀ j, ov.ownBlock = some j → s + 1 ≤ j := fun j hj => own_blk hrow0 hj
  have hB : ∀ j, j < s + 1 → j < wr.heap.size → w2.heap[j]? = wr.heap[j]? := fun j hj hjl =>
    (hg.block j (by simp; omega) (fun e => by have := hbs j e.symm; omega)).trans (Below.heap_alloc _ _ _ hjl)
  have hKg : Kept (fun j => s + 1 ≤ j) wr w2 := ((Kept.refl _ wr).alloc o).grown hg (fun r e => .inl (hbs r e))
  have hb0 := hq.2.1
  rw [hqb, hqv] at hb0
  have hbl := (Array.getElem?_eq_some_iff.1 hb0).1
  have hbw : x0.b < w.heap.size := hlt _ (.inl rfl)
  have hb2 : w2.heap[x0.b]? = some (.cells #[.slice a (rest.length + 1) c, y.fv, y.sv] 50 (0, 0)) := (hB _ (by omega) hbl).trans hb0
  have hqo : ∀ j, y.own j → j < s := fun j hj => by rw [hs]; exact hlt _ (hown j hj)
  have hq2 : XAt w2 lo y (l.drop p) H := hq.kept hKg fun j hj => by have := hqo j hj; omega
  have hK3 : Kept (fun j => j = x0.b) w2 (w2.setCell ⟨x0.b, 0, none⟩ (.slice a2 rest.length (c - 1))) := (Kept.refl (fun j => j = x0.b) w2).setCell (p := ⟨x0.b, 0, none⟩) (.inl rfl) _
  have hsz : (w2.setCell ⟨x0.b, 0, none⟩ (.slice a2 rest.length (c - 1))).heap.size = w2.heap.size := by simp [World.setCell]
  refine ⟨by simp [World.cell?, hb2], by simp [World.frozen?, hb2], h3, ?_, ?_, rfl, ?_, ?_, ?_, ?_, ?_⟩
  · rw [hrd, hd, h2]
    show p + (if f t.2.2 then rdyN f rest + 1 else 0) = _
    rw [if_pos hf]; omega
  · rw [h1, wcs_snoc]
    refine hrow.kept (grownBy_setCell' w2 x0.b _) ?_
    refine .inr (fun e => ?_)
    have := own_blk hrow e; omega
  · obtain ⟨g1, g2, ⟨g3, g4, g5⟩, ⟨g6, g7, g8⟩, ⟨g9, g10⟩, g11⟩ := hq2
    rw [hqb] at g1 g4 g5 g6 g7 g8
    refine ⟨g1, (block3_set hb2 _).1, ⟨?_, g4.blocks hK3 fun j hj e => by have := (g7 j hj).1; omega, g5.blocks hK3 fun j hj e => by have := (g8 j hj).1; omega⟩, ⟨fun j hj => ?_, fun j hj => by rw [hsz]; exact g7 j hj, fun j hj => by rw [hsz]; exact g8 j hj⟩, ⟨fun j hj => ?_, g10⟩, g11⟩
    · rw [h2]
      have e3 : (wcs (t :: rest)).drop 3 = wcs rest := by simp [wcs, wc]
      rw [e3, hqb] at hW
      refine (hW.blocks hKg fun j hj => ?_).blocks hK3 fun j hj e => ?_
      · have := hqo j (.inr (.inl (by rw [hqv, ← ho]; exact hj))); omega
      · have := (g6 j (by rw [hqv, ← ho]; exact hj)).1; omega
    · rw [hsz]; exact g6 j (by rw [hqv, ← ho]; exact hj)
    · exact g9 j (by rw [hqv, ← ho]; exact hj)
  · rintro j (rfl | hj | hj | hj)
    · exact .inl rfl
    · exact hown j (.inr (.inl (by rw [hqv, ← ho]; exact hj)))
    · exact hown j (.inr (.inr (.inl hj)))
    · exact hown j (.inr (.inr (.inr hj)))
  · exact hK.join (hKg.join hK3 (U := fun j => s + 1 ≤ j ∨ j = x0.b) (fun _ h => .inl h) (fun _ _ h => .inr h)) (fun _ h => h) (fun j hj h => by rcases h with h | h <;> omega)
  · have e1 := (hB s (by omega) hslt).trans hcf
    exact (hK3.block _ (Array.getElem?_eq_some_iff.1 e1).1 (by omega)).trans e1
  · have := hKg.size
    rw [hsz]; omega
end
theorem lenAt3 {w : World} {b n c : Nat} {a : Option Addr} {x y : Value} {t : TypeId} (h : w.heap[b]? = some (.cells #[.slice a n c, x, y] t (0, 0))) : lenAt b w = n := by
  simp [lenAt, World.cell?, h]
theorem refready_at (x0 : XP) (lo : Nat) (l : List Wt) (H : List Pr) (va : Option Addr) (vn vc : Nat) (V : List Int) (u : Value) (self : Int) (w : World) (h : XAt w lo x0 l H) (hl : l.length ≤ 2000) (hH : H.length ≤ 900)
    (hV : Rd w va vn V) (hn : vn ≤ 1000) (hvc : vn ≤ vc) (hu : ∃ x y z, u = .slice x y z) :
    Calls Try.prog 23 #[.pointer (some ⟨x0.b, 0, none⟩), .agg #[.slice va vn vc, u], .int .i64 self] w (XReady w lo x0 l H (rdyF V (mOf H) self)) := by
  obtain ⟨ux, uy, uz, rfl⟩ := hu
  have hbl : x0.b < w.heap.size := h.own_lt _ (.inl rfl)
  have HV := Lib.hid hV
  have HVN : Hid (0 < vn → ∀ b' off, va = some ⟨b', off, none⟩ → b' ≠ x0.b) := by
    refine hV.ne fun off x hc => ?_
    obtain ⟨a, c, hpv⟩ := h.2.2.1.1.slice
    obtain ⟨a2, c2, hpv2⟩ := h.2.2.1.2.1.slice
    obtain ⟨a3, c3, hpv3⟩ := h.2.2.1.2.2.slice
    simp only [World.cell?, h.2.1, hpv, hpv2, hpv3] at hc
    rcases off with _ | _ | _ | off <;> simp at hc
  have HLT := Lib.hid h.own_lt
  have HND := Lib.hid h.2.2.2.2.2
  have HX := Lib.hid h
  clear h hV
  obtain ⟨i0, hi, hz0, hz1, hz2⟩ := info_parts Try.info3
  obtain ⟨i1, hi', hz0', hz1', hz2'⟩ := info_parts info79
  go_enter Try.func23, Try.ntmps23
  go_wp2_with fail
  obtain ⟨s, hs⟩ : ∃ s, s = w.heap.size := ⟨_, rfl⟩
  have START : Hid (XRdyR w lo s x0 l H (rdyF V (mOf H) self) #[.slice va vn vc, .slice ux uy uz] 0 x0 (.slice none 0 0) (w.alloc (.cells #[.slice va vn vc, .slice ux uy uz] 32))) := by
    refine ⟨Nat.zero_le _, by simp, World.ownsRow_nil _ _ _ _, rfl, HX.out.kept ((Kept.refl (fun _ => False) w).alloc _) (fun _ _ h => h), fun _ h => h, (Kept.refl _ w).alloc _, by rw [hs]; exact heap_alloc_new _ _, by simp [hs]⟩
  rw [← hs]
  have HS := Lib.hid hs
  clear hs
  generalize w.alloc (.cells #[.slice va vn vc, .slice ux uy uz] 32) = w0 at *
  go_loopw [7] (fun ov wr => ∃ p y ov', ov = ov' ∧ XRdyR w lo s x0 l H (rdyF V (mOf H) self) #[.slice va vn vc, .slice ux uy uz] p y ov' wr) (fun _ wr => lenAt x0.b wr)
  case atStart => exact ⟨_, _, _, rfl, START.out⟩
  case round =>
    obtain ⟨p, y, ov, hov, hrel⟩ := hrel
    have hov2 := hov.symm
    clear hov
    subst hov2
    obtain ⟨w6, hw6⟩ : ∃ w6, w6 = wr := ⟨_, rfl⟩
    subst hw6
    have HREL := Lib.hid hrel
    obtain ⟨hp, hrd, hrow, hqb, hq, hown, hK, hcf, hslt⟩ := hrel
    have HQB := Lib.hid hqb
    have HQ := Lib.hid hq
    obtain ⟨a, c, hqv⟩ := hq.2.2.1.1.slice
    obtain ⟨fa, fc, hfv⟩ := hq.2.2.1.2.1.slice
    obtain ⟨sa, sc, hsv⟩ := hq.2.2.1.2.2.slice
    have hb : w6.heap[x0.b]? = some (.cells #[.slice a (l.drop p).length c, .slice fa H.length fc, .slice sa H.length sc] 50 (0, 0)) := by rw [← hqb, ← hqv, ← hfv, ← hsv]; exact hq.2.1
    have HBB := Lib.hid hb
    have HQV := Lib.hid hqv
    have HFV := Lib.hid hfv
    have HSV := Lib.hid hsv
    have HVW : Hid (Rd w6 va vn V) := HV.out.blocks hK (fun h b off e => HVN.out h b off e)
    have c0 : w6.cell? ⟨x0.b, 0, none⟩ = some (.slice a (l.drop p).length c) := by simp [World.cell?, hb]
    have c1 : w6.cell? ⟨x0.b, 1, none⟩ = some (.slice fa H.length fc) := by simp [World.cell?, hb]
    have hbl6 : x0.b < w6.heap.size := cell_block_lt c0
    clear hrd hrow hqb hq hown hK hcf hqv hfv hsv hb
    rcases hd : l.drop p with _ | ⟨t, rest⟩
    · have HDD := Lib.hid hd
      rw [hd] at c0
      clear hd
      go_wp2_with fail
      go_ret
      exact xrdy_done HREL.out (by rw [HDD.out]; rfl) HS.out
    · have HDD := Lib.hid hd
      rw [hd] at c0
      simp only [List.length_cons] at c0
      clear hd
      have HRR : Hid (majG V (bI (accS H self t.2.2)) = rdyF V (mOf H) self t.2.2) := maj_accS V HND.out self t.2.2
      have hgt : decide ((0 : Int) < (rest.length : Int) + 1) = true := decide_eq_true (by omega)
      obtain ⟨lg, loff, lcap, hlv, _, _, hlc⟩ := HQ.out.2.2.1.1.cell (by rw [HDD.out]; simp)
      rw [HQV.out] at hlv
      injection hlv with hv1 hv2 hv3
      subst hv1 hv3
      rw [HDD.out] at hlc
      have e0 := hlc 0 (.int .i64 t.1) rfl
      rw [Nat.add_zero] at e0
      have e1 := hlc 1 (.int .i64 t.2.1) rfl
      have e2 := hlc 2 (.int .i64 t.2.2) rfl
      have c2 : w6.cell? ⟨x0.b, 2, none⟩ = some (.slice sa H.length sc) := by simp [World.cell?, HBB.out]
      have HCF6 : Hid (w6.heap[s]? = some (.cells #[.slice va vn vc, .slice ux uy uz] 32 (0, 0))) := HREL.out.2.2.2.2.2.2.2.1
      clear hlc hv2
      obtain ⟨rd, hrd⟩ : ∃ rd, rd = t.2.2 := ⟨_, rfl⟩
      have HRDE := Lib.hid hrd
      rw [← hrd] at e2 HRR
      clear hrd
      go_wp2_with fail
      have B5 : Hid (Below w6.heap.size w6 (w6.alloc (.cells #[.int .i64 self] 3))) := (Below.refl _ w6).alloc (Nat.le_refl _) _
      have ROW5 : Hid ((w6.alloc (.cells #[.int .i64 self] 3)).ownsRow w6.heap.size 3 1 (.slice (some ⟨w6.heap.size, 0, none⟩) 1 1) (accS (H.take 0) self rd).length ((accS (H.take 0) self rd).map (Value.int .i64))) := by
        refine ⟨rfl, .inr ⟨w6.heap.size, 1, #[.int .i64 self], rfl, Nat.le_refl _, heap_alloc_new _ _, Nat.le_refl _, by simp [maxLen], rfl, rfl⟩⟩
      generalize w6.alloc (.cells #[.int .i64 self] 3) = W5 at *
      have KC := Lib.hid (And.intro c0 (And.intro c1 (And.intro c2 (And.intro e0 (And.intro e1 e2)))))
      clear c0 c1 c2 e0 e1 e2
      go_loopw [8, 9, 10, 24] (fun lv _ _ iv wq => ∃ (g : Nat) (A : List Int) (lv' : Value), g ≤ H.length ∧ iv = .int .i64 g ∧ lv = lv' ∧ A = accS (H.take g) self rd ∧ wq.ownsRow w6.heap.size 3 1 lv' A.length (A.map (Value.int .i64)) ∧ Below w6.heap.size w6 wq) (fun _ _ _ iv _ => H.length - (intOf iv).toNat)
      case atStart => exact ⟨0, _, _, Nat.zero_le _, rfl, rfl, rfl, ROW5.out, B5.out⟩
      case round =>
        obtain ⟨g, A, lv', hg, rfl, hle, hA, hrw, hB9⟩ := hrel
        have hle2 := hle.symm
        clear hle
        subst hle2
        have HA := Lib.hid hA
        have HRW := Lib.hid hrw
        have HB9 := Lib.hid hB9
        have hAl : A.length ≤ g + 1 := by
          rw [hA]
          have := accS_len (H.take g) self rd
          rw [List.length_take] at this
          omega
        obtain ⟨k0, k1, k2, k3, k4, k5⟩ := KC.out
        have c0 := (hB9.cell (cell_block_lt k0)).trans k0
        have c2 := (hB9.cell (cell_block_lt k2)).trans k2
        have e0 := (hB9.cell (cell_block_lt k3)).trans k3
        have e1 := (hB9.cell (cell_block_lt k4)).trans k4
        have e2 := (hB9.cell (cell_block_lt k5)).trans k5
        have hsz9 := hB9.size
        have hcf9 : wr.heap[s]? = some (.cells #[.slice va vn vc, .slice ux uy uz] 32 (0, 0)) := (hB9.block _ hslt).trans HCF6.out
        have d0 : wr.cell? ⟨s, 0, none⟩ = some (.slice va vn vc) := by simp [World.cell?, hcf9]
        have d1 : wr.cell? ⟨s, 1, none⟩ = some (.slice ux uy uz) := by simp [World.cell?, hcf9]
        have hbl9 : x0.b < wr.heap.size := Nat.lt_of_lt_of_le hbl6 hsz9
        obtain ⟨aa, ac, hlv⟩ := own_sl hrw
        subst hlv
        clear hA hrw hB9 k0 k1 k2 k3 k4 k5 hcf9
        by_cases hlt : g < H.length
        · have f1 : decide ((g : Int) < (H.length : Int)) = true := decide_eq_true (by omega)
          have f1' : decide (g < H.length) = true := decide_eq_true hlt
          obtain ⟨fg, fo, fcap, hfe, _, _, hfc⟩ := HQ.out.2.2.1.2.1.cell (by omega)
          rw [HFV.out] at hfe
          obtain ⟨sg, so, scap, hse, _, _, hsc⟩ := HQ.out.2.2.1.2.2.cell (by omega)
          rw [HSV.out] at hse
          injection hfe with q1 q2 q3
          injection hse with r1 r2 r3
          have cf6 := hfc _ _ (hf_at hlt)
          have cs6 := hsc _ _ (hs_at hlt)
          have cf := (HB9.out.cell (cell_block_lt cf6)).trans cf6
          have cs := (HB9.out.cell (cell_block_lt cs6)).trans cs6
          subst q1 q3 r1 r3
          have HTS := Lib.hid (accS_snoc (H.take g) (H.getD g (0, 0)) self rd)
          rw [← take_snoc2 H g hlt, ← HA.out] at HTS
          generalize H.getD g (0, 0) = pr at *
          obtain ⟨pf, pk⟩ := pr
          simp only at cf cs HTS
          have h63 : A.length + 1 ≤ maxLen := by simp only [maxLen]; omega
          have h64 : (A.length + 1) * 8 ≤ 140737488355328 := by omega
          clear cf6 cs6 hfc hsc q2 r2
          by_cases hrk : rd ≤ pk
          · have s8 : decide (rd ≤ pk) = true := decide_eq_true hrk
            rw [if_pos hrk] at HTS
            have HD7 : Hid (∀ n, (wr.drewN n).ownsRow w6.heap.size 3 1 (.slice aa A.length ac) A.length (A.map (Value.int .i64))) := fun _ => HRW.out
            have HB7 : Hid (∀ n, Below w6.heap.size w6 (wr.drewN n)) := fun n => below_drewN' HB9.out n
            have HZ7 : Hid (∀ n, (wr.drewN n).heap.size = wr.heap.size) := fun n => rfl
            go_wp2_with fail
            go_quiet (fail)
            have D7 := Lib.hid (HD7.out nq)
            have B7 := Lib.hid (HB7.out nq)
            have Z7 := Lib.hid (HZ7.out nq)
            generalize wr.drewN nq = w7 at *
            go_wp2_with (at_builtin; refine wpList_append_own _ rfl _ _ 22 rfl w6.heap.size 3 i0 (.int .i64 0) 1 8 Try.underlying22 hi hz0 hz1 hz2 rfl (by decide) (.slice aa A.length ac) A.length (A.map (Value.int .i64)) rfl (D7.out.alloc _) ⟨w7.heap.size, 0, none⟩ 1 1 [.int .i64 pf] rfl rfl (cell_one_new _ _ _) (by simp [Value.oneCell']) h63 h64 (by have := Z7.out; simp; omega) ?_; intro v' w8 hw8 hg8 _; have HR8 : Hid (w8.ownsRow w6.heap.size 3 1 v' (A ++ [pf]).length ((A ++ [pf]).map (Value.int .i64))) := (by { show World.ownsRow _ _ _ _ _ _ _; simpa using hw8 }); have HB8 : Hid (Below w6.heap.size w6 w8) := (B7.out.alloc (by have := Z7.out; omega) _).grown hg8 (by have := Z7.out; simp; omega) (fun j e => own_blk D7.out e); clear hw8 hg8)
            go_roundw
            case rel => exact ⟨g + 1, A ++ [pf], _, by omega, by go_num, rfl, HTS.out.symm, HR8.out, HB8.out⟩
            case measure => simp [intOf]; omega
          · have s8 : decide (rd ≤ pk) = false := decide_eq_false hrk
            rw [if_neg hrk, List.append_nil] at HTS
            go_wp2_with fail
            go_quiet (fail)
            go_wp2_with fail
            go_roundw
            case rel => exact ⟨g + 1, A, _, by omega, by go_num, rfl, HTS.out.symm, HRW.out, below_drewN' HB9.out _⟩
            case measure => simp [intOf]; omega
        · have f1 : decide ((g : Int) < (H.length : Int)) = false := decide_eq_false (by omega)
          have f1' : decide (g < H.length) = false := decide_eq_false hlt
          have HAE : Hid (majG V (bI A) = rdyF V (mOf H) self rd) := by
            show _ = _
            have h9 := HA.out
            rw [List.take_of_length_le (by omega)] at h9
            rw [h9]; exact HRR.out
          obtain ⟨aa', ac', hlv, hrdA⟩ := own_rd HRW.out
          injection hlv with h1 h2 h3
          subst h1 h3
          have HMC := Lib.hid (refmaj_any va vn vc V (.slice ux uy uz) aa A.length ac A wr (HVW.out.keep (Nat.le_refl _) HB9.out) hvc hrdA hn (by omega) ⟨_, _, _, rfl⟩)
          rw [HAE.out] at HMC
          clear hrdA h2
          cases hff : rdyF V (mOf H) self rd
          · have HFF := Lib.hid hff
            rw [hff] at HMC
            clear hff
            go_wp2_with fail
            refine HMC.out.mono ?_
            rintro e w9 ⟨rfl, hb⟩
            have HB10 := Lib.hid (HB9.out.trans (hb.mono hsz9))
            clear hb
            go_wp2_with fail
            go_ret
            exact xrdy_done (HREL.out.below HB10.out) (by rw [HDD.out, rdyN, ← HRDE.out, HFF.out]; rfl) HS.out
          · have HFF := Lib.hid hff
            rw [hff] at HMC
            clear hff
            have hq9 := (HREL.out.below HB9.out).2.2.2.2.1.2.2.1.1
            go_wp2_with fail
            refine HMC.out.mono ?_
            rintro e w9 ⟨rfl, hb⟩
            have HB10 := Lib.hid (HB9.out.trans (hb.mono hsz9))
            have c0' := (hb.cell (p := ⟨x0.b, 0, none⟩) hbl9).trans c0
            have e0' := (hb.cell (cell_block_lt e0)).trans e0
            have e1' := (hb.cell (cell_block_lt e1)).trans e1
            have e2' := (hb.cell (cell_block_lt e2)).trans e2
            have hlg : lg < w9.heap.size := cell_block_lt e0'
            have hbl10 : x0.b < w9.heap.size := Nat.lt_of_lt_of_le hbl9 hb.size
            have HR9 := Lib.hid (HREL.out.below HB10.out)
            have HE : Hid (y.lv = .slice (some ⟨lg, loff, none⟩) (rest.length + 1) c) := by
              show _ = _
              rw [HQV.out, HDD.out]; rfl
            have hw9 := HR9.out.2.2.2.2.1.2.2.1.1
            rw [HE.out, HDD.out] at hw9
            obtain ⟨a2, hcut, hW2, hO2⟩ := win_cut (T := 48) Try.underlying48 size48 hw9
            have HW2 := Lib.hid hW2
            have HO2 := Lib.hid hO2
            have hrow2 := HR9.out.2.2.1
            have HRW2 := Lib.hid hrow2
            obtain ⟨oa, oc, hov⟩ := own_sl hrow2
            subst hov
            have h63 : p + 1 ≤ maxLen := by simp only [maxLen]; omega
            have h64 : (p + 1) * 24 ≤ 140737488355328 := by omega
            have hs2 := HR9.out.2.2.2.2.2.2.2.2
            have KEY := fun v' w2 => xrdy_step (o := .cells #[.int .i64 t.1, .int .i64 t.2.1, .int .i64 rd] 79) (w2 := w2) (v' := v') HR9.out HDD.out (by rw [← HRDE.out]; exact HFF.out) HE.out HS.out HLT.out HW2.out HO2.out
            have HKEY := Lib.hid KEY
            have HWC : Hid (wc t = [.int .i64 t.1, .int .i64 t.2.1, .int .i64 rd]) := by
              show _ = _
              rw [HRDE.out]; rfl
            rw [HWC.out] at HKEY
            clear KEY hrow2 hw9 hW2 hO2 hb c0 e0 e1 e2 c2 d0 d1 hq9
            go_wp2_with (at_builtin; refine wpList_append_own_at _ rfl _ _ 48 rfl (s + 1) 79 i1 (.agg #[.int .i64 0, .int .i64 0, .int .i64 0]) 3 24 Try.underlying48 hi' hz0' hz1' hz2' rfl (by decide) (.slice oa p oc) p (wcs (l.take p)) rfl (HRW2.out.alloc _) ⟨w9.heap.size, 0, none⟩ 1 1 [.int .i64 t.1, .int .i64 t.2.1, .int .i64 rd] rfl rfl (new3 _ _ _ _ _) (by simp [Value.oneCell']) h63 h64 (by simp; omega) ?_; intro v' w2 hown2 hgrow2 _ _; obtain ⟨c2', f2', HN⟩ := HKEY.out v' w2 hown2 hgrow2; have HNN := Lib.hid HN; clear HN hown2 hgrow2)
            go_roundw
            case rel => exact ⟨_, _, _, rfl, HNN.out⟩
            case measure =>
              have h1 := lenAt3 HNN.out.2.2.2.2.1.2.1
              have h2 := lenAt3 HBB.out
              rw [h2, HDD.out]
              refine Nat.lt_of_le_of_lt (Nat.le_of_eq h1) ?_
              simp
end Go.Proofs.Ytbjhpifllgoffaa
