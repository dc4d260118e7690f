/- The document's reads: their state; Add. -/
import Derived.Test.YtbjhpifllgoffaaQa
import Derived.Test.YtbjhpifllgoffaaWaitP
namespace Go.Proofs.Ytbjhpifllgoffaa
open Go Go.RowKit Go.Maps
set_option linter.unusedVariables false
set_option linter.unusedSimpArgs false
set_option maxRecDepth 100000
set_option maxHeartbeats 2000000
structure XP where
  b : Nat
  lv : Value
  fv : Value
  sv : Value
def XP.own (x : XP) (j : Nat) : Prop := j = x.b ∨ x.lv.ownBlock = some j ∨ x.fv.ownBlock = some j ∨ x.sv.ownBlock = some j
abbrev Pr := Int × Int
def hf (H : List Pr) : List Value := H.map fun p => .int .i64 p.1
def hs (H : List Pr) : List Value := H.map fun p => .int .i64 p.2
def XAt (w : World) (lo : Nat) (x : XP) (l : List Wt) (H : List Pr) : Prop :=
  lo ≤ x.b ∧ w.heap[x.b]? = some (.cells #[x.lv, x.fv, x.sv] 50 (0, 0)) ∧ (Win w (x.b + 1) 79 3 x.lv l.length (wcs l) ∧ Win w (x.b + 1) 3 1 x.fv H.length (hf H) ∧ Win w (x.b + 1) 3 1 x.sv H.length (hs H)) ∧
    ((∀ j, x.lv.ownBlock = some j → x.b + 1 ≤ j ∧ j < w.heap.size) ∧ (∀ j, x.fv.ownBlock = some j → x.b + 1 ≤ j ∧ j < w.heap.size) ∧ (∀ j, x.sv.ownBlock = some j → x.b + 1 ≤ j ∧ j < w.heap.size)) ∧
    ((∀ j, x.lv.ownBlock = some j → x.fv.ownBlock ≠ some j ∧ x.sv.ownBlock ≠ some j) ∧ ∀ j, x.fv.ownBlock = some j → x.sv.ownBlock ≠ some j) ∧ (H.map (·.1)).Nodup
section
variable {w w' : World} {lo : Nat} {x : XP} {l : List Wt} {H : List Pr}
theorem XAt.kept {S : Nat → Prop} (h : XAt w lo x l H) (hk : Kept S w w') (hn : ∀ j, x.own j → ¬ S j) : XAt w' lo x l H := by
  obtain ⟨h1, h2, ⟨h3, h4, h5⟩, ⟨h6, h7, h8⟩, h9⟩ := h
  have hs := hk.size
  exact ⟨h1, (hk.block _ (Array.getElem?_eq_some_iff.1 h2).1 (hn _ (.inl rfl))).trans h2, ⟨h3.blocks hk fun j hj => hn j (.inr (.inl hj)), h4.blocks hk fun j hj => hn j (.inr (.inr (.inl hj))), h5.blocks hk fun j hj => hn j (.inr (.inr (.inr hj)))⟩,
    ⟨fun j hj => ⟨(h6 j hj).1, by have := (h6 j hj).2; omega⟩, fun j hj => ⟨(h7 j hj).1, by have := (h7 j hj).2; omega⟩, fun j hj => ⟨(h8 j hj).1, by have := (h8 j hj).2; omega⟩⟩, h9⟩
theorem XAt.own_ge (h : XAt w lo x l H) : ∀ j, x.own j → lo ≤ j := by
  obtain ⟨h1, h2, _, ⟨h6, h7, h8⟩, h9⟩ := h
  rintro j (rfl | hj | hj | hj)
  · exact h1
  · have := (h6 j hj).1; omega
  · have := (h7 j hj).1; omega
  · have := (h8 j hj).1; omega
theorem XAt.own_lt (h : XAt w lo x l H) : ∀ j, x.own j → j < w.heap.size := by
  obtain ⟨h1, h2, _, ⟨h6, h7, h8⟩, h9⟩ := h
  rintro j (rfl | hj | hj | hj)
  · exact (Array.getElem?_eq_some_iff.1 h2).1
  · exact (h6 j hj).2
  · exact (h7 j hj).2
  · exact (h8 j hj).2
end
def XActed (w : World) (lo : Nat) (x : XP) (l : List Wt) (H : List Pr) (w' : World) : Prop :=
  ∃ y : XP, y.b = x.b ∧ XAt w' lo y l H ∧ (∀ j, y.own j → x.own j ∨ w.heap.size ≤ j) ∧ Kept x.own w w'
theorem XActed.same {w : World} {lo : Nat} {x : XP} {l : List Wt} {H : List Pr} (h : XAt w lo x l H) : XActed w lo x l H w := ⟨x, rfl, h, fun _ h => .inl h, Kept.refl _ _⟩
theorem kept_drewN (S : Nat → Prop) (w : World) (n : Nat) : Kept S w (w.drewN n) := ⟨rfl, rfl, rfl, Nat.le_refl _, fun _ _ _ => rfl⟩
theorem XActed.drewN {w : World} {lo : Nat} {x : XP} {l : List Wt} {H : List Pr} (h : XAt w lo x l H) (n : Nat) : XActed w lo x l H (w.drewN n) := ⟨x, rfl, h.kept (kept_drewN (fun _ => False) w n) (fun _ _ h => h), fun _ h => .inl h, kept_drewN _ _ _⟩
theorem XActed.pre {w w1 w' : World} {lo : Nat} {x : XP} {l : List Wt} {H : List Pr} (h : XActed w1 lo x l H w') (hk : Kept (fun _ => False) w w1) : XActed w lo x l H w' := by
  obtain ⟨y, h1, h2, h3, h4⟩ := h
  have hs := hk.size
  exact ⟨y, h1, h2, fun j hj => (h3 j hj).imp id fun h => by omega, hk.join h4 (fun _ h => h.elim) (fun _ _ h => h)⟩
theorem info79 : (Try.prog.info? 79).map (fun i => (i.zero, i.size, i.bytes)) = some (some (.agg #[.int .i64 0, .int .i64 0, .int .i64 0]), 3, 24) := by kernel_rfl
theorem size48 (W : World) : (sizeOf (Try.prog.elem 48)).run Try.prog W = .ok 3 W := by
  obtain ⟨i0, hi, hz0, hz1, hz2⟩ := info_parts info79
  have he : Try.prog.elem 48 = 79 := by kernel_rfl
  rw [he]
  simp [sizeOf, typeInfo, hi, hz1]
theorem block3_set {w : World} {b : Nat} {x y z : Value} {t : TypeId} (h : w.heap[b]? = some (.cells #[x, y, z] t (0, 0))) (v : Value) :
    (w.setCell ⟨b, 0, none⟩ v).heap[b]? = some (.cells #[v, y, z] t (0, 0)) ∧ (w.setCell ⟨b, 1, none⟩ v).heap[b]? = some (.cells #[x, v, z] t (0, 0)) ∧ (w.setCell ⟨b, 2, none⟩ v).heap[b]? = some (.cells #[x, y, v] t (0, 0)) := by
  simp [World.setCell, Array.getElem?_modify, h]
/-- An append to one of the three rows, and the store behind it. -/
theorem win_after {w w1 : World} {o : Obj} {base : Nat} {e : TypeId} {size n : Nat} {v v' : Value} {xs : List Value} (hw : Win w1 base e size v' n xs) (hn : 0 < n) (hsz : 0 < size) (ho : v'.ownBlock = v.ownBlock ∨ v'.ownBlock = some (w.alloc o).heap.size) :
    ∀ j, v'.ownBlock = some j → (base ≤ j ∧ j < w1.heap.size) ∧ (v.ownBlock = some j ∨ w.heap.size ≤ j) := by
  intro j hj
  obtain ⟨g, off, cap, rfl, hg, hnc, hc⟩ := hw.cell hn
  have e : g = j := by simpa [Value.ownBlock] using hj
  subst e
  have hl := hw.1
  have : 0 < n * size := Nat.mul_pos hn hsz
  refine ⟨⟨hg, cell_block_lt (hc 0 _ (List.getElem?_eq_getElem (by omega)))⟩, ?_⟩
  rcases ho with e | e
  · exact .inl (by rw [← e]; exact hj)
  · rw [e] at hj; injection hj with hj; simp at hj; exact .inr (by omega)
theorem xadd_key {w : World} {lo : Nat} {x : XP} {l : List Wt} {H : List Pr} {id ix rd : Int} (h : XAt w lo x l H) :
    ∀ v1 w1, Win w1 (x.b + 1) 79 3 v1 (l.length + 1) (wcs l ++ [.int .i64 id, .int .i64 ix, .int .i64 rd]) → (w.alloc (.cells #[.int .i64 id, .int .i64 ix, .int .i64 rd] 79)).grownBy w1 x.lv.ownBlock →
      (v1.ownBlock = x.lv.ownBlock ∨ v1.ownBlock = some (w.alloc (.cells #[.int .i64 id, .int .i64 ix, .int .i64 rd] 79)).heap.size) →
      XActed w lo x (l ++ [(id, ix, rd)]) H (w1.setCell ⟨x.b, 0, none⟩ v1) ∧ w1.cell? ⟨x.b, 0, none⟩ = some x.lv ∧ w1.frozen? ⟨x.b, 0, none⟩ = false := by
  intro v1 w1 hw hg ho
  obtain ⟨h1, h2, ⟨h3, h4, h5⟩, ⟨h6, h7, h8⟩, ⟨h9, h10⟩, h11⟩ := h
  have hbl := (Array.getElem?_eq_some_iff.1 h2).1
  have hK : Kept (fun j => x.lv.ownBlock = some j) w w1 := ((Kept.refl _ w).alloc _).grown hg (fun r e => .inl e)
  have hb1 : w1.heap[x.b]? = some (.cells #[x.lv, x.fv, x.sv] 50 (0, 0)) := (hK.block _ hbl (fun e => by have := (h6 _ e).1; omega)).trans h2
  have hS : Kept (fun j => j = x.b) w1 (w1.setCell ⟨x.b, 0, none⟩ v1) := (Kept.refl (fun j => j = x.b) w1).setCell (p := ⟨x.b, 0, none⟩) (.inl rfl) _
  have hA := win_after hw (by omega) (by omega) ho
  have hsz : (w1.setCell ⟨x.b, 0, none⟩ v1).heap.size = w1.heap.size := by simp [World.setCell]
  have hs1 := hK.size
  refine ⟨⟨⟨x.b, v1, x.fv, x.sv⟩, rfl, ⟨h1, (block3_set hb1 v1).1, ⟨?_, ?_, ?_⟩, ⟨?_, ?_, ?_⟩, ⟨?_, h10⟩, h11⟩, ?_, ?_⟩, by simp [World.cell?, hb1], by simp [World.frozen?, hb1]⟩
  · have e : (l ++ [(id, ix, rd)]).length = l.length + 1 := by simp
    rw [e, wcs_snoc]
    exact hw.blocks hS fun j hj e => by have := (hA j hj).1.1; omega
  · exact (h4.blocks hK fun j hj e => (h9 j e).1 hj).blocks hS fun j hj e => by have := (h7 j hj).1; omega
  · exact (h5.blocks hK fun j hj e => (h9 j e).2 hj).blocks hS fun j hj e => by have := (h8 j hj).1; omega
  · exact fun j hj => ⟨(hA j hj).1.1, by rw [hsz]; exact (hA j hj).1.2⟩
  · exact fun j hj => ⟨(h7 j hj).1, by rw [hsz]; have := (h7 j hj).2; omega⟩
  · exact fun j hj => ⟨(h8 j hj).1, by rw [hsz]; have := (h8 j hj).2; omega⟩
  · intro j hj
    rcases (hA j hj).2 with e | e
    · exact h9 j e
    · exact ⟨fun e2 => by have := (h7 j e2).2; omega, fun e2 => by have := (h8 j e2).2; omega⟩
  · rintro j (rfl | hj | hj | hj)
    · exact .inl (.inl rfl)
    · rcases (hA j hj).2 with e | e
      · exact .inl (.inr (.inl e))
      · exact .inr e
    · exact .inl (.inr (.inr (.inl hj)))
    · exact .inl (.inr (.inr (.inr hj)))
  · exact hK.join hS (fun j hj => .inr (.inl hj)) (fun j _ e => .inl e)
theorem xadd_at (x : XP) (lo : Nat) (l : List Wt) (H : List Pr) (id ix rd : Int) (w : World) (h : XAt w lo x l H) (hl : l.length ≤ 100000) :
    Calls Try.prog 20 #[.pointer (some ⟨x.b, 0, none⟩), .int .i64 id, .int .i64 ix, .int .i64 rd] w fun e w' => e = .returned (.bool (addB l rd)) ∧ XActed w lo x (if addB l rd then l ++ [(id, ix, rd)] else l) H w' := by
  have HX := Lib.hid h
  have hbl : x.b < w.heap.size := h.own_lt _ (.inl rfl)
  obtain ⟨i0, hi, hz0, hz1, hz2⟩ := info_parts info79
  obtain ⟨a, c, hv⟩ := h.2.2.1.1.slice
  have c0 : w.cell? ⟨x.b, 0, none⟩ = some (.slice a l.length c) := by rw [← hv]; simp [World.cell?, h.2.1]
  have HV := Lib.hid hv
  by_cases hfu : 1000 ≤ l.length
  · have hB : addB l rd = false := by unfold addB; simp; omega
    rw [hB]
    have d1 : decide ((1000 : Int) ≤ (l.length : Int)) = true := decide_eq_true (by omega)
    clear h hv
    go_enter Try.func20, Try.ntmps20
    go_wp2_with fail
    go_quiet (fail)
    go_wp2_with fail
    go_ret
    exact ⟨rfl, XActed.drewN HX.out _⟩
  · have d1 : decide ((1000 : Int) ≤ (l.length : Int)) = false := decide_eq_false (by omega)
    have d1' : decide (1000 ≤ l.length) = false := decide_eq_false hfu
    rcases List.eq_nil_or_concat l with rfl | ⟨l', t, rfl⟩
    · have hB : addB [] rd = true := rfl
      rw [hB, if_pos rfl]
      simp only [List.length_nil] at c0 hv
      have HV0 : Hid (x.lv = .slice a 0 c) := hv
      clear h hv d1 d1' HV
      go_enter Try.func20, Try.ntmps20
      go_wp2_with fail
      go_quiet (fail)
      have H7 : Hid (XAt (w.drewN nq) lo x [] H) := HX.out.kept (kept_drewN (fun _ => False) w nq) (fun _ _ h => h)
      have K7 := Lib.hid (kept_drewN (fun _ => False) w nq)
      have c7 : (w.drewN nq).cell? ⟨x.b, 0, none⟩ = some (.slice a 0 c) := c0
      have hb7 : x.b < (w.drewN nq).heap.size := hbl
      generalize w.drewN nq = w7 at *
      have KEY := xadd_key (id := id) (ix := ix) (rd := rd) H7.out
      rw [HV0.out] at KEY
      have HKEY := Lib.hid KEY
      have HW : Hid (Win w7 (x.b + 1) 79 3 (.slice a 0 c) 0 (wcs [])) := by
        show Win _ _ _ _ _ _ _
        have := H7.out.2.2.1.1
        rwa [HV0.out] at this
      clear KEY
      go_wp2_with (at_builtin; refine wpList_append_win _ rfl _ _ 48 rfl (x.b + 1) 79 i0 (.agg #[.int .i64 0, .int .i64 0, .int .i64 0]) 3 24 Try.underlying48 hi hz0 hz1 hz2 rfl (by decide) (.slice a 0 c) 0 (wcs []) rfl (HW.out.alloc _) ⟨w7.heap.size, 0, none⟩ 1 1 [.int .i64 id, .int .i64 ix, .int .i64 rd] Nat.one_pos rfl rfl (new3 _ _ _ _ _) (by simp [Value.oneCell']) (by simp only [maxLen]; omega) (by omega) (by simp; omega) ?_; intro v1 w1 hw1 hg1 ho1; obtain ⟨hA, c2, f2⟩ := HKEY.out v1 w1 hw1 hg1 ho1; obtain ⟨a1, k1, rfl⟩ := hw1.slice; have HA1 := Lib.hid hA; clear hA hw1 hg1 ho1)
      go_ret
      exact ⟨rfl, HA1.out.pre K7.out⟩
    · rw [List.concat_eq_append] at *
      obtain ⟨g, off, cap, hv2, hbg, hnc, hcell⟩ := h.2.2.1.1.cell (by simp)
      rw [hv] at hv2
      injection hv2 with e1 e2 e3
      subst e1 e3
      have hlen : (l' ++ [t]).length = l'.length + 1 := by simp
      have hx : w.cell? ⟨g, off + l'.length * 3 + 2, none⟩ = some (.int .i64 t.2.2) := by
        have e1 := wcs_at (l' ++ [t]) l'.length 2 (by simp) (by omega)
        have e2 : (l' ++ [t]).getD l'.length (0, 0, 0) = t := by simp [List.getD_eq_getElem?_getD]
        rw [e2] at e1
        have := hcell _ _ e1
        rw [← Nat.add_assoc] at this
        exact this
      have hgl : (l' ++ [t]).getLast? = some t := by simp
      have HW0 : Hid (Win w (x.b + 1) 79 3 (.slice (some ⟨g, off, none⟩) (l'.length + 1) c) (l'.length + 1) (wcs (l' ++ [t]))) := by
        show Win _ _ _ _ _ _ _
        have := h.2.2.1.1
        rwa [hv, hlen] at this
      have HV0 : Hid (x.lv = .slice (some ⟨g, off, none⟩) (l'.length + 1) c) := by
        show _ = _
        rw [← hlen]; exact hv
      rw [hlen] at c0 d1 d1' hfu hl
      have HLEN := Lib.hid hlen
      have HGL := Lib.hid hgl
      clear h hv hcell hlen hgl HV e2 hnc
      obtain ⟨n, hn⟩ : ∃ n, n = l'.length := ⟨_, rfl⟩
      rw [← hn] at c0 d1 d1' hfu hl hx HW0 HV0 HLEN
      clear hn
      have d2 : decide ((1000 : Int) ≤ (n : Int) + 1) = false := decide_eq_false (by omega)
      have d3 : decide ((0 : Int) < (n : Int) + 1) = true := decide_eq_true (by omega)
      have h4 : IntKind.i64.wrap (n : Int) = n := IntWalk.i64_in _ (by omega)
      have h5 : (n : Int) < (n : Int) + 1 := by omega
      by_cases hr : rd < t.2.2
      · have hB : addB (l' ++ [t]) rd = false := by
          unfold addB; rw [HGL.out]; simp; omega
        rw [hB]
        have d5 : decide (rd < t.2.2) = true := decide_eq_true hr
        go_enter Try.func20, Try.ntmps20
        go_wp2_with fail
        go_quiet (fail)
        go_wp2_with fail
        go_ret
        exact ⟨rfl, XActed.drewN HX.out _⟩
      · have hB : addB (l' ++ [t]) rd = true := by
          unfold addB; rw [HGL.out, HLEN.out]; simp; omega
        rw [hB, if_pos rfl]
        have d5 : decide (rd < t.2.2) = false := decide_eq_false hr
        go_enter Try.func20, Try.ntmps20
        go_wp2_with fail
        go_quiet (fail)
        have H7 : Hid (XAt (w.drewN nq) lo x (l' ++ [t]) H) := HX.out.kept (kept_drewN (fun _ => False) w nq) (fun _ _ h => h)
        have K7 := Lib.hid (kept_drewN (fun _ => False) w nq)
        have c7 : (w.drewN nq).cell? ⟨x.b, 0, none⟩ = some (.slice (some ⟨g, off, none⟩) (n + 1) c) := c0
        have hb7 : x.b < (w.drewN nq).heap.size := hbl
        have HW : Hid (Win (w.drewN nq) (x.b + 1) 79 3 (.slice (some ⟨g, off, none⟩) (n + 1) c) (n + 1) (wcs (l' ++ [t]))) := HW0.out
        generalize w.drewN nq = w7 at *
        have KEY := xadd_key (id := id) (ix := ix) (rd := rd) H7.out
        rw [HV0.out, HLEN.out] at KEY
        have HKEY := Lib.hid KEY
        clear KEY
        have h63 : n + 1 + 1 ≤ maxLen := by simp only [maxLen]; omega
        have h64 : (n + 1 + 1) * 24 ≤ 140737488355328 := by omega
        clear hx
        go_wp2_with (at_builtin; refine wpList_append_win _ rfl _ _ 48 rfl (x.b + 1) 79 i0 (.agg #[.int .i64 0, .int .i64 0, .int .i64 0]) 3 24 Try.underlying48 hi hz0 hz1 hz2 rfl (by decide) (.slice (some ⟨g, off, none⟩) (n + 1) c) (n + 1) (wcs (l' ++ [t])) rfl (HW.out.alloc _) ⟨w7.heap.size, 0, none⟩ 1 1 [.int .i64 id, .int .i64 ix, .int .i64 rd] Nat.one_pos rfl rfl (new3 _ _ _ _ _) (by simp [Value.oneCell']) h63 h64 (by simp; omega) ?_; intro v1 w1 hw1 hg1 ho1; obtain ⟨hA, c2, f2⟩ := HKEY.out v1 w1 hw1 hg1 ho1; obtain ⟨a1, k1, rfl⟩ := hw1.slice; have HA1 := Lib.hid hA; clear hA hw1 hg1 ho1)
        go_ret
        exact ⟨rfl, HA1.out.pre K7.out⟩
end Go.Proofs.Ytbjhpifllgoffaa
