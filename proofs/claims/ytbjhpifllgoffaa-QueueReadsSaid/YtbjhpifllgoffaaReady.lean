/- Reads that wait: Ready. -/
import Derived.Test.YtbjhpifllgoffaaKpt
import Derived.Deep.RegionHeld3
import Derived.Deep.QuietTactic
import Derived.BigQuiet
namespace Go.Proofs.Ytbjhpifllgoffaa
open Go Go.RowKit Go.Maps
set_option linter.unusedVariables false
set_option linter.unusedSimpArgs false
set_option maxRecDepth 100000
set_option maxHeartbeats 2000000
/-- How many are ready: those ahead of the first one whose round is not good. -/
def rdyN (f : Int → Bool) : List Wt → Nat
  | [] => 0
  | t :: l => if f t.2.2 then rdyN f l + 1 else 0
theorem rdyN_le (f : Int → Bool) : ∀ l, rdyN f l ≤ l.length
  | [] => Nat.le_refl _
  | t :: l => by
    unfold rdyN
    have := rdyN_le f l
    split <;> simp
    exact this
def rc (t : Wt) : List Value := [.int .i64 t.1, .int .i64 t.2.1]
def rcs (l : List Wt) : List Value := l.flatMap rc
theorem rcs_len (l : List Wt) : (rcs l).length = l.length * 2 := by
  unfold rcs
  induction l with
  | nil => rfl
  | cons x l ih => rw [List.flatMap_cons, List.length_append, ih, List.length_cons]; simp [rc]; omega
theorem rcs_snoc (l : List Wt) (t : Wt) : rcs (l ++ [t]) = rcs l ++ rc t := by simp [rcs]
theorem drop_succ_of {l : List Wt} {p : Nat} {t : Wt} {rest : List Wt} (h : l.drop p = t :: rest) : l.take (p + 1) = l.take p ++ [t] ∧ l.drop (p + 1) = rest ∧ p < l.length := by
  have hp : p < l.length := by
    rcases Nat.lt_or_ge p l.length with h1 | h1
    · exact h1
    · rw [List.drop_eq_nil_of_le h1] at h; cases h
  rw [List.drop_eq_getElem_cons hp] at h
  injection h with h1 h2
  exact ⟨by rw [List.take_succ_eq_append_getElem hp, h1], h2, hp⟩
theorem Try.info41 : (Try.prog.info? 41).map (fun i => (i.zero, i.size, i.bytes)) = some (some (.agg #[.int .i64 0, .int .i64 0]), 2, 16) := by kernel_rfl
theorem size66 (W : World) : (sizeOf (Try.prog.elem 66)).run Try.prog W = .ok 3 W := by
  obtain ⟨i0, hi, hz0, hz1, hz2⟩ := info_parts info76
  have he : Try.prog.elem 66 = 76 := by kernel_rfl
  rw [he]
  simp [sizeOf, typeInfo, hi, hz1]
def lenAt (b : Nat) (w : World) : Nat := match w.cell? ⟨b, 0, none⟩ with | some (.slice _ n _) => n | _ => 0
theorem lenAt_of {w : World} {b n c : Nat} {a : Option Addr} {x : Value} {t : TypeId} (h : w.heap[b]? = some (.cells #[.slice a n c, x] t (0, 0))) : lenAt b w = n := by
  simp [lenAt, World.cell?, h]
def rdyF (V : List Int) (m : Int → Option Int) (self : Int) (rd : Int) : Bool := majG V (whoB m rd self)
/-- A round of Ready. -/
def RdyR (w : World) (lo s : Nat) (p0 : RP) (k : Nat) (m : Int → Option Int) (l : List Wt) (f : Int → Bool) (va : Option Addr) (vn vc : Nat) (u : Value) (p : Nat) (q : RP) (ov : Value) (wr : World) : Prop :=
  p ≤ l.length ∧ rdyN f l = p + rdyN f (l.drop p) ∧ wr.ownsRow (s + 1) 41 2 ov p (rcs (l.take p)) ∧ q.b = p0.b ∧ q.mb = p0.mb ∧ RAt wr lo q k m (l.drop p) ∧ (∀ j, q.own j → p0.own j) ∧ Kept (fun j => j = p0.b) w wr ∧ wr.heap[s]? = some (.cells #[.slice va vn vc, u] 32 (0, 0)) ∧ s < wr.heap.size
def Ready (w : World) (lo : Nat) (p0 : RP) (k : Nat) (m : Int → Option Int) (l : List Wt) (f : Int → Bool) (e : Ending) (w' : World) : Prop :=
  ∃ v, e = .returned v ∧ w'.ownsRow w.heap.size 41 2 v (rdyN f l) (rcs (l.take (rdyN f l))) ∧ ∃ q : RP, q.b = p0.b ∧ q.mb = p0.mb ∧ RAt w' lo q k m (l.drop (rdyN f l)) ∧ (∀ j, q.own j → p0.own j) ∧ Kept (fun j => j = p0.b) w w'
theorem own_weak' {w : World} {base base' : Nat} {e : TypeId} {size n : Nat} {v : Value} {xs : List Value} (h : w.ownsRow base e size v n xs) (hb : base' ≤ base) : w.ownsRow base' e size v n xs :=
  ⟨h.1, h.2.imp id (fun ⟨g, cap, cur, a, b, c⟩ => ⟨g, cap, cur, a, Nat.le_trans hb b, c⟩)⟩
theorem below_drewN' {B : Nat} {a w : World} (h : Below B a w) (n : Nat) : Below B a (w.drewN n) := ⟨h.os, h.tape, h.output, h.size, h.block⟩
theorem held_5 {A B C D : Prop} {m : Nat} {w W : World} (h : A ∧ B ∧ C ∧ D ∧ Below m w W) : Below m w W := h.2.2.2.2
theorem rdy_done {w wr w' : World} {lo s : Nat} {p0 : RP} {k : Nat} {m : Int → Option Int} {l : List Wt} {f : Int → Bool} {va : Option Addr} {vn vc : Nat} {u : Value} {p : Nat} {q : RP} {ov : Value} (h : RdyR w lo s p0 k m l f va vn vc u p q ov wr)
    (h0 : rdyN f (l.drop p) = 0) (hs : s = w.heap.size) (hb : Below wr.heap.size wr w') : Ready w lo p0 k m l f (.returned ov) w' := by
  obtain ⟨hp, hrd, hrow, hqb, hqm, hq, hown, hK, hcf, hslt⟩ := h
  have e : rdyN f l = p := by omega
  have hb0 : Kept (fun _ => False) wr w' := Kept.of hb (Nat.le_refl _)
  refine ⟨ov, rfl, ?_, q, hqb, hqm, ?_, hown, hK.join hb0 (fun _ h => h) (fun _ _ h => h.elim)⟩
  · rw [e]
    have h1 := own_weak' hrow (show w.heap.size ≤ s + 1 by omega)
    refine h1.kept ⟨hb.os, hb.tape, hb.output, hb.size, fun j hj _ => hb.block j hj⟩ ?_ (row := none)
    by_cases h9 : ov.ownBlock = none
    · exact .inl h9
    · exact .inr h9
  · rw [e]; exact hq.kept hb0 (fun _ _ h => h)
theorem RdyR.below {w wr w' : World} {lo s : Nat} {p0 : RP} {k : Nat} {m : Int → Option Int} {l : List Wt} {f : Int → Bool} {va : Option Addr} {vn vc : Nat} {u : Value} {p : Nat} {q : RP} {ov : Value} (h : RdyR w lo s p0 k m l f va vn vc u p q ov wr)
    (hb : Below wr.heap.size wr w') : RdyR w lo s p0 k m l f va vn vc u p q ov w' := by
  obtain ⟨hp, hrd, hrow, hqb, hqm, hq, hown, hK, hcf, hslt⟩ := h
  have hb0 : Kept (fun _ => False) wr w' := Kept.of hb (Nat.le_refl _)
  refine ⟨hp, hrd, ?_, hqb, hqm, hq.kept hb0 (fun _ _ h => h), hown, hK.join hb0 (fun _ h => h) (fun _ _ h => h.elim), (hb.block _ hslt).trans hcf, Nat.lt_of_lt_of_le hslt hb.size⟩
  refine hrow.kept ⟨hb.os, hb.tape, hb.output, hb.size, fun j hj _ => hb.block j hj⟩ ?_ (row := none)
  by_cases h9 : ov.ownBlock = none
  · exact .inl h9
  · exact .inr h9
theorem rdy_step {w wr w2 : World} {lo s : Nat} {p0 : RP} {k : Nat} {m : Int → Option Int} {l : List Wt} {f : Int → Bool} {va : Option Addr} {vn vc : Nat} {u : Value} {p : Nat} {q : RP} {ov v' : Value} {t : Wt} {rest : List Wt} {a a2 : Option Addr} {c : Nat} {o : Obj}
    (h : RdyR w lo s p0 k m l f va vn vc u p q ov wr) (hd : l.drop p = t :: rest) (hf : f t.2.2 = true) (hqv : q.v = .slice a (rest.length + 1) c) (hs : s = w.heap.size) (hlt : ∀ j, p0.own j → j < w.heap.size)
    (hW : Win wr (q.b + 1) 76 3 (.slice a2 rest.length (c - 1)) rest.length ((wcs (t :: rest)).drop 3)) (ho : (Value.slice a2 rest.length (c - 1)).ownBlock = (Value.slice a (rest.length + 1) c).ownBlock)
    (hrow : w2.ownsRow (s + 1) 41 2 v' (p + 1) (rcs (l.take p) ++ rc t)) (hg : (wr.alloc o).grownBy w2 ov.ownBlock) :
    w2.cell? ⟨p0.b, 0, none⟩ = some (.slice a (rest.length + 1) c) ∧ w2.frozen? ⟨p0.b, 0, none⟩ = false ∧ RdyR w lo s p0 k m l f va vn vc u (p + 1) ⟨p0.b, p0.mb, .slice a2 rest.length (c - 1)⟩ v' (w2.setCell ⟨p0.b, 0, none⟩ (.slice a2 rest.length (c - 1))) := by
  obtain ⟨hp, hrd, hrow0, hqb, hqm, hq, hown, hK, hcf, hslt⟩ := h
  obtain ⟨h1, h2, h3⟩ := drop_succ_of hd
  have hbs : ∀ j, ov.ownBlock = some j → s + 1 ≤ j := fun j hj => own_blk hrow0 hj
  have hB : ∀ j, j < s + 1 → j < wr.heap.size → w2.heap[j]? = wr.heap[j]? := fun j hj hjl =>
    (hg.block j (by simp; omega) (fun e => by have := hbs j e.symm; omega)).trans (Below.heap_alloc _ _ _ hjl)
  have hKg : Kept (fun j => s + 1 ≤ j) wr w2 := ((Kept.refl _ wr).alloc o).grown hg (fun r e => .inl (hbs r e))
  have hb0 := hq.2.2.1
  rw [hqb, hqm, hqv] at hb0
  have hbl := (Array.getElem?_eq_some_iff.1 hb0).1
  have hbw : p0.b < w.heap.size := hlt _ (.inl rfl)
  have hb2 : w2.heap[p0.b]? = some (.cells #[.slice a (rest.length + 1) c, .map (some p0.mb)] 69 (0, 0)) := (hB _ (by omega) hbl).trans hb0
  have hqo : ∀ j, q.own j → j < s := fun j hj => by rw [hs]; exact hlt _ (hown j hj)
  have hq2 : RAt w2 lo q k m (l.drop p) := hq.kept hKg fun j hj => by have := hqo j hj; omega
  have hK3 : Kept (fun j => j = p0.b) w2 (w2.setCell ⟨p0.b, 0, none⟩ (.slice a2 rest.length (c - 1))) := (Kept.refl (fun j => j = p0.b) w2).setCell (p := ⟨p0.b, 0, none⟩) (.inl rfl) _
  refine ⟨by simp [World.cell?, hb2], by simp [World.frozen?, hb2], h3, ?_, ?_, rfl, rfl, ?_, ?_, ?_, ?_, ?_⟩
  · rw [hrd, hd, h2]
    show p + (if f t.2.2 then rdyN f rest + 1 else 0) = _
    rw [if_pos hf]; omega
  · rw [h1, rcs_snoc]
    refine hrow.kept (grownBy_setCell' w2 p0.b _) ?_
    refine .inr (fun e => ?_)
    have := own_blk hrow e; omega
  · obtain ⟨g1, g2, g3, ⟨D, g4, g5⟩, g6, g7⟩ := hq2
    refine ⟨by rw [← hqm]; exact g1, by rw [← hqm, ← hqb]; exact g2, block_set0 hb2, ⟨D, ?_, g5⟩, ?_, fun j hj => ?_⟩
    · obtain ⟨es, cl, i1, i2, i3, i4⟩ := g4
      rw [hqm] at i1
      exact ⟨es, cl, (hK3.block _ (Array.getElem?_eq_some_iff.1 i1).1 (fun e => by rw [hqb, hqm] at g2; omega)).trans i1, i2, i3, i4⟩
    · rw [h2]
      have e3 : (wcs (t :: rest)).drop 3 = wcs rest := by simp [wcs, wc]
      rw [e3, hqb] at hW
      refine (hW.blocks hKg fun j hj => ?_).blocks hK3 fun j hj e => ?_
      · have := hqo j (.inr (.inr (by rw [hqv, ← ho]; exact hj))); omega
      · have := (g7 j (by rw [hqv, ← ho]; exact hj)).1; omega
    · have := g7 j (by rw [hqv, ← ho]; exact hj)
      rw [← hqb]
      exact ⟨this.1, by simpa [World.setCell] using this.2⟩
  · rintro j (rfl | rfl | hj)
    · exact .inl rfl
    · exact .inr (.inl rfl)
    · exact hown j (.inr (.inr (by rw [hqv, ← ho]; exact hj)))
  · exact hK.join (hKg.join hK3 (U := fun j => s + 1 ≤ j ∨ j = p0.b) (fun _ h => .inl h) (fun _ _ h => .inr h)) (fun _ h => h) (fun j hj h => by rcases h with h | h <;> omega)
  · have e1 := (hB s (by omega) hslt).trans hcf
    exact (hK3.block _ (Array.getElem?_eq_some_iff.1 e1).1 (by omega)).trans e1
  · have := hKg.size
    simp [World.setCell]; omega
theorem new2 (W : World) (e : TypeId) (x y : Value) (j : Nat) (u : Value) (h : [x, y][j]? = some u) : (W.alloc (.cells #[x, y] e)).cell? ((⟨W.heap.size, 0, none⟩ : Addr).add j) = some u := by
  rw [Addr.add_lit]
  simp only [World.cell?, heap_alloc_new, Nat.zero_add]
  simpa using h
theorem who_from (w0 : World) (b mb k : Nat) (D : DataW Unit) (m : Int → Option Int) (rd self : Int) (W : World) (h : w0.cell? ⟨b, 1, none⟩ = some (.map (some mb))) (hown : w0.ownsMap Try.prog 3 (plainElem Try.prog 3) mb k D) (hm : MR D m) (hk : k ≤ 900) (hB : Below w0.heap.size w0 W) :
    Calls Try.prog 32 #[.pointer (some ⟨b, 0, none⟩), .int .i64 rd, .int .i64 self] W fun e w' => ∃ a c n A, e = .returned (.slice a n c) ∧ Rd w' a n A ∧ n ≤ k + 1 ∧ (∀ n, bI A n = whoB m rd self n) ∧ Below w0.heap.size w0 w' := by
  refine (who_any b mb k D m rd self W ((hB.cell (cell_block_lt h)).trans h) ?_ hm hk).mono ?_
  · obtain ⟨es, cl, g1, g2, g3, g4⟩ := hown
    exact ⟨es, cl, (hB.block _ (Array.getElem?_eq_some_iff.1 g1).1).trans g1, g2, g3, g4⟩
  · rintro e w' ⟨a, c, n, A, he, hr, hn, hA, hb⟩
    exact ⟨a, c, n, A, he, hr, hn, hA, hB.trans (hb.mono hB.size)⟩
theorem maj_from (w0 : World) (va : Option Addr) (vn vc : Nat) (V : List Int) (u : Value) (a : Option Addr) (n c : Nat) (A : List Int) (m : Int → Option Int) (rd self : Int) (W : World) (hV : Rd w0 va vn V) (hA : Rd W a n A) (hvn : vn ≤ 1000) (hn : n ≤ 1000) (hu : ∃ x y z, u = .slice x y z) (hw : ∀ n, bI A n = whoB m rd self n) (hB : Below w0.heap.size w0 W) :
    Calls Try.prog 31 #[.agg #[.slice va vn vc, u], .slice a n c] W fun e w' => e = .returned (.bool (rdyF V m self rd)) ∧ Below w0.heap.size w0 w' := by
  refine (maj_any va vn vc V u a n c A W (hV.keep (Nat.le_refl _) hB) hA hvn hn hu).mono ?_
  rintro e w' ⟨rfl, hb⟩
  refine ⟨?_, hB.trans (hb.mono hB.size)⟩
  rw [majG_congr (q := whoB m rd self) fun x _ => hw x]; rfl
theorem ready_any (p0 : RP) (lo k : Nat) (m : Int → Option Int) (l : List Wt) (va : Option Addr) (vn vc : Nat) (V : List Int) (u : Value) (self : Int) (w : World) (h : RAt w lo p0 k m l) (hk : k ≤ 900) (hl : l.length ≤ 2000)
    (hV : Rd w va vn V) (hn : vn ≤ 1000) (hu : ∃ x y z, u = .slice x y z) :
    Calls Try.prog 16 #[.pointer (some ⟨p0.b, 0, none⟩), .agg #[.slice va vn vc, u], .int .i64 self] w (Ready w lo p0 k m l (rdyF V m self)) := by
  obtain ⟨ux, uy, uz, rfl⟩ := hu
  have hbc : w.cell? ⟨p0.b, 1, none⟩ = some (.map (some p0.mb)) := by simp [World.cell?, h.2.2.1]
  have hbl : p0.b < w.heap.size := cell_block_lt hbc
  have HV := Lib.hid hV
  have HVN : Hid (0 < vn → ∀ b' off, va = some ⟨b', off, none⟩ → b' ≠ p0.b) := by
    refine hV.ne fun off x hc => ?_
    obtain ⟨a, c, hpv⟩ := h.2.2.2.2.1.slice
    simp only [World.cell?, h.2.2.1] at hc
    rcases off with _ | _ | off
    · simp at hc; rw [hpv] at hc; cases hc
    · simp at hc
    · simp at hc
  have HLT := Lib.hid h.own_lt
  have HR := Lib.hid h
  clear h hV
  obtain ⟨i0, hi, hz0, hz1, hz2⟩ := info_parts Try.info41
  go_enter Try.func16, Try.ntmps16
  go_wp2_with (first | (go_at_call 30; refine (rmade_any p0.b p0.mb _ (by simp [World.cell?, Below.heap_alloc _ _ _ hbl, HR.out.2.2.1])).mono ?_; rintro e w2 ⟨rfl, rfl⟩))
  obtain ⟨s, hs⟩ : ∃ s, s = w.heap.size := ⟨_, rfl⟩
  have START : Hid (RdyR w lo s p0 k m l (rdyF V m self) va vn vc (.slice ux uy uz) 0 p0 (.slice none 0 0) (w.alloc (.cells #[.slice va vn vc, .slice ux uy uz] 32))) := by
    refine ⟨Nat.zero_le _, by simp, World.ownsRow_nil _ _ _ _, rfl, rfl, HR.out.kept ((Kept.refl (fun _ => False) w).alloc _) (fun _ _ h => h), fun _ h => h, (Kept.refl _ w).alloc _, by rw [hs]; exact heap_alloc_new _ _, by simp [hs]⟩
  rw [← hs]
  have HS := Lib.hid hs
  clear hs
  generalize w.alloc (.cells #[.slice va vn vc, .slice ux uy uz] 32) = w0 at *
  clear hbc
  go_loopw [7] (fun ov wr => ∃ p q ov', ov = ov' ∧ RdyR w lo s p0 k m l (rdyF V m self) va vn vc (.slice ux uy uz) p q ov' wr) (fun _ wr => lenAt p0.b wr)
  case atStart => exact ⟨_, _, _, rfl, START.out⟩
  case round =>
    obtain ⟨p, q, ov, rfl, hrel⟩ := hrel
    have HREL := Lib.hid hrel
    obtain ⟨hp, hrd, hrow, hqb, hqm, hq, hown, hK, hcf, hslt⟩ := hrel
    have HRD := Lib.hid hrd
    have HROW := Lib.hid hrow
    have HQB := Lib.hid hqb
    have HQM := Lib.hid hqm
    have HQ := Lib.hid hq
    have HOWN := Lib.hid hown
    have HK := Lib.hid hK
    have HCF := Lib.hid hcf
    obtain ⟨a, c, hqv⟩ := hq.2.2.2.2.1.slice
    have hb : wr.heap[p0.b]? = some (.cells #[.slice a (l.drop p).length c, .map (some p0.mb)] 69 (0, 0)) := by rw [← hqb, ← hqm, ← hqv]; exact hq.2.2.1
    have HBB := Lib.hid hb
    have HQV := Lib.hid hqv
    obtain ⟨D, hD, hMR⟩ := hq.2.2.2.1
    rw [hqm] at hD
    have HD := Lib.hid hD
    have HMR := Lib.hid hMR
    have c0 : wr.cell? ⟨p0.b, 0, none⟩ = some (.slice a (l.drop p).length c) := by simp [World.cell?, hb]
    have c1 : wr.cell? ⟨p0.b, 1, none⟩ = some (.map (some p0.mb)) := by simp [World.cell?, hb]
    have d0 : wr.cell? ⟨s, 0, none⟩ = some (.slice va vn vc) := by simp [World.cell?, hcf]
    have d1 : wr.cell? ⟨s, 1, none⟩ = some (.slice ux uy uz) := by simp [World.cell?, hcf]
    have hbl2 : p0.b < wr.heap.size := cell_block_lt c0
    have HV2 : Hid (Rd wr va vn V) := HV.out.blocks hK (fun h b off e => HVN.out h b off e)
    clear hrd hrow hqb hqm hq hown hK hcf hqv hb hD hMR
    rcases hd : l.drop p with _ | ⟨t, rest⟩
    · have HDD := Lib.hid hd
      rw [hd] at c0
      clear hd
      have hg : decide ((0 : Int) < ((0 : Nat) : Int)) = false := by simp
      go_wp2_with fail
      go_quiet (fail)
      go_wp2_with fail
      go_ret
      exact rdy_done HREL.out (by rw [HDD.out]; rfl) HS.out (below_drewN' (Below.refl _ _) _)
    · have HDD := Lib.hid hd
      rw [hd] at c0
      obtain ⟨h1, h2, h3⟩ := drop_succ_of hd
      have HT := Lib.hid h1
      have HDR := Lib.hid h2
      clear h1 h2
      obtain ⟨g, off, cap, hv, hg, hnc, hcell⟩ := HQ.out.2.2.2.2.1.cell (by rw [hd]; simp)
      rw [HQV.out] at hv
      injection hv with hv1 hv2 hv3
      subst hv1 hv3
      rw [hd] at hcell
      have e0 := hcell 0 (.int .i64 t.1) rfl
      rw [Nat.add_zero] at e0
      have e1 := hcell 1 (.int .i64 t.2.1) rfl
      have e2 := hcell 2 (.int .i64 t.2.2) rfl
      have hgl := cell_block_lt e0
      have KS : Hid (∀ W, Below wr.heap.size wr W → W.cell? ⟨p0.b, 0, none⟩ = some (.slice (some ⟨g, off, none⟩) (t :: rest).length c) ∧ W.cell? ⟨g, off + 2, none⟩ = some (.int .i64 t.2.2) ∧ W.cell? ⟨s, 0, none⟩ = some (.slice va vn vc) ∧ W.cell? ⟨s, 1, none⟩ = some (.slice ux uy uz) ∧ Below wr.heap.size wr W) := by
        show ∀ W, _
        intro W h
        exact ⟨(h.cell (cell_block_lt c0)).trans c0, (h.cell (cell_block_lt e2)).trans e2, (h.cell (cell_block_lt d0)).trans d0, (h.cell (cell_block_lt d1)).trans d1, h⟩
      have E2 := Lib.hid e2
      clear hd hcell hg hnc e2
      have C1 := Lib.hid c1
      clear c1
      simp only [List.length_cons] at c0 KS
      go_wp2_with fail
      go_region_held3 (fun W => W.cell? ⟨p0.b, 0, none⟩ = some (.slice (some ⟨g, off, none⟩) (rest.length + 1) c) ∧ W.cell? ⟨g, off + 2, none⟩ = some (.int .i64 t.2.2) ∧ W.cell? ⟨s, 0, none⟩ = some (.slice va vn vc) ∧ W.cell? ⟨s, 1, none⟩ = some (.slice ux uy uz) ∧ Below wr.heap.size wr W)
        (first | exact KS.out _ (Below.refl _ _) | exact KS.out _ (by assumption) | exact KS.out _ (Below.refl _ _).drew | exact KS.out _ (by repeat (first | exact Below.refl _ _ | assumption | refine Below.drew ?_)))
        (first
          | (go_at_call 32; (with_reducible refine (who_from wr p0.b p0.mb k D m t.2.2 self _ C1.out HD.out HMR.out hk (held_5 (by assumption))).mono ?_); rintro e w' ⟨aa, ac, an, A, rfl, hrdA, hnA, hwA, hbA⟩)
          | (go_at_call 31; refine (maj_from wr va vn vc V _ aa an ac A m t.2.2 self _ HV2.out hrdA hn (by omega) ⟨_, _, _, rfl⟩ hwA (held_5 (by assumption))).mono ?_; rintro e w' ⟨rfl, hbM⟩))
      rename_i hHeld
      clear hHeld
      have HR2 := Lib.hid (HREL.out.below hbM)
      have HBM := Lib.hid hbM
      have e0' := (hbM.cell (p := ⟨g, off, none⟩) hgl).trans e0
      have e1' := (hbM.cell (p := ⟨g, off + 1, none⟩) hgl).trans e1
      have c0' := (hbM.cell (p := ⟨p0.b, 0, none⟩) hbl2).trans c0
      have hgl' := Nat.lt_of_lt_of_le hgl hbM.size
      have hbl' := Nat.lt_of_lt_of_le hbl2 hbM.size
      clear hbM hbA hrdA hwA e0 e1 c0 d0 d1
      have HE : Hid (q.v = .slice (some ⟨g, off, none⟩) (rest.length + 1) c) := by
        show _ = _
        rw [HQV.out, HDD.out]; rfl
      have hq9 := HR2.out.2.2.2.2.2.1.2.2.2.2.1
      rw [HE.out, HDD.out] at hq9
      obtain ⟨a2, hcut, hW2, hO2⟩ := win_cut (T := 66) Try.underlying66 size66 hq9
      have HW2 := Lib.hid hW2
      have HO2 := Lib.hid hO2
      clear hq9 hW2 hO2
      cases hf : rdyF V m self t.2.2
      · have HF := Lib.hid hf
        clear hf
        go_wp2_with fail
        go_ret
        exact rdy_done HREL.out (by rw [HDD.out, rdyN, HF.out]; rfl) HS.out HBM.out
      · have HF := Lib.hid hf
        clear hf
        have hrow2 := HR2.out.2.2.1
        have HRW := Lib.hid hrow2
        obtain ⟨oa, oc, rfl⟩ := own_sl hrow2
        have h63 : p + 1 ≤ maxLen := by simp only [maxLen]; omega
        have h64 : (p + 1) * 16 ≤ 140737488355328 := by omega
        have hs2 := HR2.out.2.2.2.2.2.2.2.2.2
        clear hrow2
        have KEY := fun v' w2 => rdy_step (o := .cells #[.int .i64 t.1, .int .i64 t.2.1] 41) (w2 := w2) (v' := v') HR2.out HDD.out HF.out HE.out HS.out HLT.out HW2.out HO2.out
        have HKEY := Lib.hid KEY
        clear KEY
        go_wp2_with (first
          | (at_builtin; refine wpList_append_own_at _ rfl _ _ 38 rfl (s + 1) 41 i0 (.agg #[.int .i64 0, .int .i64 0]) 2 16 Try.underlying38 hi hz0 hz1 hz2 rfl (by decide) (.slice oa p oc) p (rcs (l.take p)) rfl (HRW.out.alloc _) ⟨w'.heap.size, 0, none⟩ 1 1 [.int .i64 t.1, .int .i64 t.2.1] rfl rfl (new2 _ _ _ _) (by simp [Value.oneCell']) h63 h64 (by simp; omega) ?_; intro v' w2 hown2 hgrow2 _ _; obtain ⟨c2, f2, HN⟩ := HKEY.out v' w2 hown2 hgrow2; have HNN := Lib.hid HN; clear HN hown2 hgrow2))
        go_roundw
        case rel => exact ⟨_, _, _, rfl, HNN.out⟩
        case measure =>
          have h1 := lenAt_of HNN.out.2.2.2.2.2.1.2.2.1
          have h2 := lenAt_of HBB.out
          rw [h2, HDD.out]
          refine Nat.lt_of_le_of_lt (Nat.le_of_eq h1) ?_
          simp
/-- The same, of what lies beside. -/
theorem Ready.act {w w' : World} {lo : Nat} {p0 : RP} {k : Nat} {m : Int → Option Int} {l : List Wt} {f : Int → Bool} {e : Ending} (h : Ready w lo p0 k m l f e w') :
    ∃ v, e = .returned v ∧ w'.ownsRow w.heap.size 41 2 v (rdyN f l) (rcs (l.take (rdyN f l))) ∧ RActed w lo p0 k m (l.drop (rdyN f l)) w' := by
  obtain ⟨v, he, hrow, q, h1, h2, h3, h4, h5⟩ := h
  exact ⟨v, he, hrow, q, h1, h2, h3, fun j hj => .inl (h4 j hj), h5.weaken fun k hk => .inl hk⟩
end Go.Proofs.Ytbjhpifllgoffaa
