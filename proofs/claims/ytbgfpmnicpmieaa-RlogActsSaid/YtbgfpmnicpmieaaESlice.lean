/- Commit, Slice: what stands in a log, a part of it. -/
import Derived.Test.YtbgfpmnicpmieaaETwo
namespace Go.Proofs.Ytbgfpmnicpmieaa
open Go Go.RowKit Go.Shelf Go.Sort
set_option linter.unusedVariables false
set_option linter.unusedSimpArgs false
set_option maxRecDepth 100000
set_option maxHeartbeats 1000000
theorem LB.s0 {w b l} (h : LB w b l) (x : Int) : LB (w.setCell ⟨b, 0, none⟩ (.int .i64 x)) b { l with ix := x } := by
  have := heap_setCell_same w b 0 _ 64 (.int .i64 x) h
  unfold LB; rw [this]; rfl
theorem LB.s1 {w b l} (h : LB w b l) (x : Int) : LB (w.setCell ⟨b, 1, none⟩ (.int .i64 x)) b { l with tm := x } := by
  have := heap_setCell_same w b 1 _ 64 (.int .i64 x) h
  unfold LB; rw [this]; rfl
theorem LB.s3 {w b l} (h : LB w b l) (x : Int) : LB (w.setCell ⟨b, 3, none⟩ (.int .i64 x)) b { l with com := x } := by
  have := heap_setCell_same w b 3 _ 64 (.int .i64 x) h
  unfold LB; rw [this]; rfl
theorem LB.s4 {w b l} (h : LB w b l) (x : Int) : LB (w.setCell ⟨b, 4, none⟩ (.int .i64 x)) b { l with app := x } := by
  have := heap_setCell_same w b 4 _ 64 (.int .i64 x) h
  unfold LB; rw [this]; rfl
/-- All that holds of a log whose calls were the package's own. -/
structure Inv (l : Lg) (es : List Ent) : Prop where
  ok : Ok l (pts es)
  ch : chainB l.ix l.tm es = true
  a1 : l.ix ≤ l.app
  a2 : l.app ≤ l.com
  a3 : l.com ≤ l.ix + l.n
  s1 : l.ix ≤ l.sur
  s2 : l.sur ≤ l.ix + l.n
  top : l.ix + l.n ≤ 2199023255552
def comB (l : Lg) (i : Int) : Bool := decide (l.com < i) && decide (i ≤ l.ix + l.n)
def comL (l : Lg) (i : Int) : Lg := if comB l i then { l with com := i } else l
theorem comL_inv {l : Lg} {es : List Ent} (h : Inv l es) (i : Int) : Inv (comL l i) es := by
  unfold comL
  split
  · rename_i h1
    simp only [comB, Bool.and_eq_true, decide_eq_true_eq] at h1
    have := h.a2
    exact ⟨⟨h.ok.is, h.ok.len, h.ok.row, h.ok.small, h.ok.lo, h.ok.hi⟩, h.ch, h.a1, by dsimp only; omega, h1.2, h.s1, h.s2, h.top⟩
  · exact h
theorem LG.set {w m b l es} (h : LG w m b l es) {l' : Lg} {j : Nat} {v : Value} (hb : LB (w.setCell ⟨b, j, none⟩ v) b l') (ha : l'.a = l.a) (hn : l'.n = l.n) (hc : l'.c = l.c) : LG (w.setCell ⟨b, j, none⟩ v) m b l' es :=
  ⟨hb, by rw [ha, hn, hc]; exact own_set h.own _ _ (fun e => h.ne e rfl), h.mb⟩
theorem commit_any (m b : Nat) (l : Lg) (es : List Ent) (i : Int) (w : World) (hg : LG w m b l es) (hi : Inv l es) :
    Calls Try.prog 17 #[.pointer (some ⟨b, 0, none⟩), .int .i64 i] w fun e w' => e = .returned (.bool (comB l i)) ∧ LG w' m b (comL l i) es ∧ Kept (· = b) w w' := by
  have HM : Hid (∀ W, LB W b l → Calls Try.prog 41 #[.pointer (some ⟨b, 0, none⟩)] W fun e w' => e = .returned (.bool true) ∧ W = w') := by
    show ∀ W, _
    intro W h
    have := made_any b l W h
    rwa [hi.ok.is] at this
  have HL := Lib.hid (last_any b l (pts es) w hg.lb hi.ok.is hg.ep hi.ok.small)
  have HG := Lib.hid hg
  have HLa := Lib.hid hi.ok.last
  have HQ : Hid (comB l i = (decide (l.com < i) && decide (i ≤ l.ix + l.n))) := rfl
  have HC : Hid (comL l i = if comB l i then { l with com := i } else l) := rfl
  clear hg hi
  go_enter Try.func17, Try.ntmps17
  go_wp2_with fail
  refine HL.out.mono ?_
  rintro e w1 ⟨rfl, hb⟩
  rw [HLa.out]
  have G1 := Lib.hid (HG.out.below (Nat.le_refl _) hb)
  have K1 : Hid (Kept (· = b) w w1) := Kept.of hb (Nat.le_refl _)
  clear hb HL HG HLa
  generalize (lastP l (pts es)).2 = lt at *
  have c3 := G1.out.lb.c3
  have f3 := G1.out.lb.frozen 3
  obtain ⟨la, hla⟩ : ∃ la, la = l.ix + (l.n : Int) := ⟨_, rfl⟩
  rw [← hla] at HQ ⊢
  clear hla
  go_wp2_with fail
  refine (HM.out _ G1.out.lb).mono ?_
  rintro e w' ⟨rfl, rfl⟩
  by_cases c1 : i ≤ l.com
  · have d1 : decide (i ≤ l.com) = true := decide_eq_true c1
    have HF : Hid (comB l i = false) := by show _ = _; rw [HQ.out, decide_eq_false (by omega)]; rfl
    have HLL : Hid (comL l i = l) := by show _ = _; rw [HC.out, HF.out]; rfl
    clear c1
    go_wp2_with fail
    go_ret
    exact ⟨ret_bool HF.out.symm, by rw [HLL.out]; exact G1.out, K1.out⟩
  have d1 : decide (i ≤ l.com) = false := decide_eq_false c1
  by_cases c2 : la < i
  · have d2 : decide (la < i) = true := decide_eq_true c2
    have HF : Hid (comB l i = false) := by show _ = _; rw [HQ.out, decide_eq_true (by omega), decide_eq_false (by omega)]; rfl
    have HLL : Hid (comL l i = l) := by show _ = _; rw [HC.out, HF.out]; rfl
    clear c1 c2
    go_wp2_with fail
    go_ret
    exact ⟨ret_bool HF.out.symm, by rw [HLL.out]; exact G1.out, K1.out⟩
  have d2 : decide (la < i) = false := decide_eq_false c2
  have HF : Hid (comB l i = true) := by show _ = _; rw [HQ.out, decide_eq_true (by omega), decide_eq_true (by omega)]; rfl
  have HLL : Hid (comL l i = { l with com := i }) := by show _ = _; rw [HC.out, HF.out]; rfl
  clear c1 c2
  go_wp2_with fail
  go_ret
  exact ⟨ret_bool HF.out.symm, by rw [HLL.out]; exact G1.out.set (G1.out.lb.s3 i) rfl rfl rfl, K1.out.setCell (p := ⟨b, 3, none⟩) rfl _⟩
/-- A part of a log's row. -/
theorem slice_mid {w m b l es} (h : LG w m b l es) {k j : Nat} (hkj : k + j ≤ l.n) : ∃ a2 c2, (∀ W, (Instr.slice 22 (.slice l.a l.n l.c) (some (.int .i64 (k : Int))) (some (.int .i64 ((k : Int) + (j : Int)))) none).run Try.prog W = .ok (.slice a2 j c2) W) ∧ ER w a2 j ((es.drop k).take j) := by
  have hc := h.cap
  refine ⟨if l.c = k then l.a else l.a.map (·.add (k * 13)), l.c - k, fun W => ?_, ?_⟩
  · rw [run_slice_lh W 22 l.a l.n l.c Try.underlying22 _ _ _ _ (by omega) (by omega) (by omega)]
    obtain ⟨i0, hi, hz0, hz1, hz2⟩ := info_parts Try.info37
    have hs : (sizeOf (Try.prog.elem 22)).run Try.prog W = .ok 13 W := by
      have he : Try.prog.elem 22 = 37 := by kernel_rfl
      rw [he]
      simp [sizeOf, typeInfo, hi, hz1]
    rw [hs]
    simp only [Result.andThen_ok, sliced]
    rw [show ((k : Int) + (j : Int)).toNat - (k : Int).toNat = j by omega, show (k : Int).toNat = k by omega]
  · rcases Nat.eq_zero_or_pos j with rfl | hj
    · exact ⟨by simp, .inl rfl⟩
    · rw [if_neg (by omega)]
      rcases h.er.2 with h0 | ⟨bb, off, ea, hrow⟩
      · omega
      · rw [ea]
        have hr := h.er
        rw [ea] at hr
        have := (hr.drop (k := k) (by omega)).take (k := j) (by omega)
        simpa [Addr.add_lit] using this
theorem slice_from {w m b l es} (h : LG w m b l es) {k : Nat} (hk : k ≤ l.n) : ∃ a2 c2, (∀ W, (Instr.slice 22 (.slice l.a l.n l.c) (some (.int .i64 (k : Int))) none none).run Try.prog W = .ok (.slice a2 (l.n - k) c2) W) ∧ ER w a2 (l.n - k) (es.drop k) := by
  have hc := h.cap
  refine ⟨if l.c = k then l.a else l.a.map (·.add (k * 13)), l.c - k, fun W => ?_, ?_⟩
  · rw [run_slice_l W 22 l.a l.n l.c Try.underlying22 _ _ (by omega) (by omega)]
    obtain ⟨i0, hi, hz0, hz1, hz2⟩ := info_parts Try.info37
    have hs : (sizeOf (Try.prog.elem 22)).run Try.prog W = .ok 13 W := by
      have he : Try.prog.elem 22 = 37 := by kernel_rfl
      rw [he]
      simp [sizeOf, typeInfo, hi, hz1]
    rw [hs]
    simp only [Result.andThen_ok, sliced]
    rw [show (k : Int).toNat = k by omega]
  · rcases Nat.eq_zero_or_pos (l.n - k) with h0 | hj
    · rw [h0]
      exact ⟨by rw [List.length_drop, h.len]; exact h0, .inl rfl⟩
    · rw [if_neg (by omega)]
      rcases h.er.2 with h0 | ⟨bb, off, ea, hrow⟩
      · omega
      · rw [ea]
        have hr := h.er
        rw [ea] at hr
        have := (hr.drop (k := k) (by omega))
        simpa [Addr.add_lit] using this
end Go.Proofs.Ytbgfpmnicpmieaa
