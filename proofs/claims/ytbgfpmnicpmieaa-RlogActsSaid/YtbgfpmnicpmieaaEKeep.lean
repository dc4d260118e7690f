/- What each act keeps. -/
import Derived.Test.YtbgfpmnicpmieaaEAct2
namespace Go.Proofs.Ytbgfpmnicpmieaa
open Go Go.RowKit
set_option linter.unusedVariables false
set_option linter.unusedSimpArgs false
set_option maxRecDepth 100000
set_option maxHeartbeats 1000000
/-- A step of a log: nothing that is committed changes, and at most q entries come, out of ys. -/
structure Stp (l : Lg) (es ys : List Ent) (q : Nat) (l' : Lg) (es' : List Ent) : Prop where
  inv : Inv l' es'
  mem : ∀ x, x ∈ es' → x ∈ es ∨ x ∈ ys
  n1 : l'.n ≤ l.n + q
  n2 : l'.ix + l'.n ≤ l.ix + l.n + q
  com : l.com ≤ l'.com
  ix : l.ix ≤ l'.ix
  same : ∀ i : Int, l'.ix < i → i ≤ l.com → es'.getD (i - l'.ix - 1).toNat default = es.getD (i - l.ix - 1).toNat default
theorem Stp.refl {l : Lg} {es : List Ent} (h : Inv l es) (ys : List Ent) (q : Nat) : Stp l es ys q l es := ⟨h, fun x hx => .inl hx, by omega, by omega, Int.le_refl _, Int.le_refl _, fun _ _ _ => rfl⟩
theorem Stp.trans {l l1 l2 : Lg} {es es1 es2 ys : List Ent} {q1 q2 : Nat} (h : Stp l es ys q1 l1 es1) (k : Stp l1 es1 ys q2 l2 es2) : Stp l es ys (q1 + q2) l2 es2 := by
  have a1 := h.n1; have a2 := h.n2; have a3 := h.com; have a4 := h.ix
  have b1 := k.n1; have b2 := k.n2; have b3 := k.com; have b4 := k.ix
  refine ⟨k.inv, fun x hx => ?_, by omega, by omega, by omega, by omega, fun i h1 h2 => ?_⟩
  · rcases k.mem x hx with h1 | h1
    · exact h.mem x h1
    · exact .inr h1
  · rw [k.same i h1 (by omega), h.same i (by omega) h2]
theorem Stp.weak {l l1 : Lg} {es es1 ys zs : List Ent} {q r : Nat} (h : Stp l es ys q l1 es1) (hm : ∀ x, x ∈ ys → x ∈ zs) (hq : q ≤ r) : Stp l es zs r l1 es1 := by
  have a1 := h.n1; have a2 := h.n2
  exact ⟨h.inv, fun x hx => (h.mem x hx).imp id (hm x), by omega, by omega, h.com, h.ix, h.same⟩
theorem stp_com {l : Lg} {es : List Ent} (h : Inv l es) (i : Int) : Stp l es [] 0 (comL l i) es := by
  have hn : (comL l i).n = l.n := by unfold comL; split <;> rfl
  have hx : (comL l i).ix = l.ix := by unfold comL; split <;> rfl
  refine ⟨comL_inv h i, fun x hx => .inl hx, by omega, by omega, ?_, by omega, fun j _ _ => by rw [hx]⟩
  unfold comL
  split
  · rename_i h1
    simp only [comB, Bool.and_eq_true, decide_eq_true_eq] at h1
    dsimp only; omega
  · exact Int.le_refl _
theorem stp_sur {l : Lg} {es : List Ent} (h : Inv l es) (i : Int) : Stp l es [] 0 (surL l i) es :=
  ⟨surL_inv h i, fun x hx => .inl hx, by unfold surL; dsimp only; omega, by unfold surL; dsimp only; omega, Int.le_refl _, Int.le_refl _, fun _ _ _ => rfl⟩
theorem stp_app {l : Lg} {es : List Ent} (h : Inv l es) (i : Int) : Stp l es [] 0 (appL l i) es := by
  have hn : (appL l i).n = l.n := by unfold appL; split <;> rfl
  have hx : (appL l i).ix = l.ix := by unfold appL; split <;> rfl
  have hc : (appL l i).com = l.com := by unfold appL; split <;> rfl
  exact ⟨appL_inv h i, fun x hx => .inl hx, by omega, by omega, by omega, by omega, fun j _ _ => by rw [hx]⟩
theorem stp_cpt {l l' : Lg} {es es' : List Ent} (h : Inv l es) {i : Int} (hc : Cpt l es i l' es') : Stp l es [] 0 l' es' := by
  rcases hc with ⟨_, rfl, rfl⟩ | ⟨hc, a, c, rfl, rfl⟩
  · exact Stp.refl h _ _
  · have hinv := cpt_inv h hc a c
    have h1 := hc
    simp only [cptB, Bool.and_eq_true, decide_eq_true_eq] at h1
    have hk : (cptK l i : Int) = i - l.ix - 1 := by unfold cptK; omega
    have g1 := h.a2
    have g2 := h.a3
    refine ⟨hinv, fun x hx => .inl (List.mem_of_mem_drop hx), by dsimp only; omega, by dsimp only; omega, Int.le_refl _, by dsimp only; omega, fun j h2 h3 => ?_⟩
    dsimp only at h2 ⊢
    rw [getD_drop]
    congr 1
    omega
theorem stp_add {l : Lg} {es : List Ent} {x : Ent} (h : Inv l es) (hx : addB l es x = true) (hn : l.n + 1 ≤ 1000) (ht : l.ix + l.n + 1 ≤ 2199023255552) (a : Option Addr) (c : Nat) : Stp l es [x] 1 { l with a := a, n := l.n + 1, c := c } (es ++ [x]) := by
  have hel : es.length = l.n := by have := h.ok.len; rwa [pts_len] at this
  have h3 := h.a3
  refine ⟨add_inv h hx hn ht a c, fun y hy => by simpa using hy, by dsimp only; omega, by dsimp only; omega, Int.le_refl _, Int.le_refl _, fun i h1 h2 => ?_⟩
  dsimp only at h1 ⊢
  rw [getD_left _ _ (by omega)]
theorem stp_mat {l : Lg} {es ys : List Ent} {index term : Int} (h : Inv l es) (hm : matOk l es index term ys = true) (hk : matK l es ys < ys.length) (hc : l.com < index + matK l es ys + 1) (hn : l.n + ys.length ≤ 1000) (ht : l.ix + l.n + ys.length ≤ 2199023255552) (a : Option Addr) (c : Nat) (n : Nat) (hyn : ys.length = n) :
    Stp l es ys n (matL l index (matK l es ys) n a c) (matE l es index (matK l es ys) ys) := by
  subst hyn
  have hel : es.length = l.n := by have := h.ok.len; rwa [pts_len] at this
  have hp := mat_parts hel hm
  have hch := mat_chain hel h.ch hp hk
  have hlen := matE_len hel hp hk
  have lo := hp.lo
  have hi := hp.hi
  have a1 := h.a1; have a2 := h.a2; have a3 := h.a3; have s1 := h.s1; have s2 := h.s2
  have hl2 : (es.take (index + matK l es ys - l.ix).toNat).length = (index + matK l es ys - l.ix).toNat := by rw [List.length_take, hel]; omega
  refine ⟨⟨⟨h.ok.is, by rw [pts_len, hlen]; rfl, fun j hj => ?_, by unfold matL; dsimp only; omega, h.ok.lo, h.ok.hi⟩, hch, a1, a2, ?_, ?_, ?_, ?_⟩, fun x hx => ?_, ?_, ?_, Int.le_refl _, Int.le_refl _, fun i h1 h2 => ?_⟩
  · rw [pts_len] at hj
    rw [pts_at _ hj]
    exact chain_row hch j hj
  · unfold matL; dsimp only; omega
  · unfold matL; dsimp only; omega
  · unfold matL; dsimp only; omega
  · unfold matL; dsimp only; omega
  · unfold matE at hx
    rcases List.mem_append.1 hx with h1 | h1
    · exact .inl (List.mem_of_mem_take h1)
    · exact .inr (List.mem_of_mem_drop h1)
  · unfold matL; dsimp only; omega
  · unfold matL; dsimp only; omega
  · unfold matL at h1 ⊢
    dsimp only at h1 ⊢
    rw [matE, getD_left _ _ (by rw [hl2]; omega), getD_take _ (by omega)]
/-- The document's log that nothing was done to. -/
abbrev zL : Lg := ⟨0, 0, none, 0, 0, 0, 0, 0, true⟩
theorem z_inv : Inv zL [] := ⟨⟨rfl, rfl, fun j hj => absurd hj (Nat.not_lt_zero _), by decide, by decide, by decide⟩, rfl, by decide, by decide, by decide, by decide, by decide, by decide⟩
theorem z_com (i : Int) : comL zL i = zL := by
  unfold comL
  rw [if_neg]
  simp only [comB, Bool.and_eq_true, decide_eq_true_eq]
  omega
theorem z_sur (i : Int) : surL zL i = zL := by
  unfold surL
  have : max (0 : Int) (min i (0 + ((0 : Nat) : Int))) = 0 := by omega
  show ({ zL with sur := max (0 : Int) (min i (0 + ((0 : Nat) : Int))) } : Lg) = zL
  rw [this]
theorem z_app (i : Int) : appL zL i = zL := by
  unfold appL
  rw [if_pos]
  show min ((0 : Int) - 0) i < 1
  omega
theorem z_cpt {i : Int} {l : Lg} {es : List Ent} (h : Cpt zL [] i l es) : l = zL ∧ es = [] := by
  rcases h with ⟨_, h1, h2⟩ | ⟨h, _⟩
  · exact ⟨h1, h2⟩
  · simp only [cptB, Bool.and_eq_true, decide_eq_true_eq] at h
    omega
/-- What an act leaves, where the document's log is as new. -/
def ActK (w : World) (m b : Nat) (l : Lg) (es : List Ent) (rb : Nat) (e : Ending) (w' : World) : Prop :=
  ∃ r l' es', e = .returned (.bool r) ∧ Two w' m b l' es' rb zL [] ∧ Loc w w' b l l' rb zL zL ∧ Stp l es [] 0 l' es'
theorem actK_any (m b : Nat) (l : Lg) (es : List Ent) (rb : Nat) (x : Ac) (w : World) (h : Two w m b l es rb zL []) (hi : Inv l es) (w0 : World) (hk : Kn w0 m w es) (hx : AK w0 x) (k0 : x.k ≠ 0) (k1 : x.k ≠ 1) (k6 : x.k ≠ 6) :
    Calls Try.prog 25 #[.pointer (some ⟨b, 0, none⟩), .pointer (some ⟨rb, 0, none⟩), .agg #[.int .i64 x.k, .int .i64 x.n, .int .i64 x.m, .slice x.a x.len x.cap]] w (ActK w m b l es rb) := by
  have hk0 : Kn w0 m w ([] : List Ent) := hk.sub (fun y hy => by cases hy)
  obtain ⟨k, N, M, a, n, c, ys⟩ := x
  have q1 := hx.n1; have q2 := hx.n2; have q3 := hx.m1; have q4 := hx.m2
  dsimp only at *
  by_cases h2 : k = 2
  · subst h2
    refine (act2 m b l es rb zL [] N M a n c w h hi z_inv).mono ?_
    rintro e w' ⟨rfl, ht, hb⟩
    rw [z_com] at ht hb
    exact ⟨_, _, _, rfl, ht, hb, stp_com hi N⟩
  by_cases h3 : k = 3
  · subst h3
    refine (act3 m b l es rb zL [] N M a n c w h hi z_inv).mono ?_
    rintro e w' ⟨rfl, ht, hb⟩
    rw [z_sur] at ht hb
    exact ⟨_, _, _, rfl, ht, hb, stp_sur hi N⟩
  by_cases h4 : k = 4
  · subst h4
    refine (act4 m b l es rb zL [] N M a n c w h hi z_inv w0 hk hk0 q1 q2 q3 q4).mono ?_
    rintro e w' ⟨rfl, ht, hb⟩
    rw [z_app] at ht hb
    exact ⟨_, _, _, rfl, ht, hb, stp_app hi N⟩
  by_cases h5 : k = 5
  · subst h5
    refine (act5 m b l es rb zL [] N M a n c w h hi z_inv).mono ?_
    rintro e w' ⟨rfl, l1, e1, l2, e2, c1, c2, ht, hb⟩
    obtain ⟨rfl, rfl⟩ := z_cpt c2
    exact ⟨_, _, _, rfl, ht, hb, stp_cpt hi c1⟩
  by_cases h7 : k = 7
  · subst h7
    refine (act7 m b l es rb zL [] N M a n c w h hi z_inv w0 hk hk0 q1 q2 q3 q4).mono ?_
    rintro e w' ⟨rfl, ht, hb⟩
    exact ⟨_, _, _, rfl, ht, hb, Stp.refl hi _ _⟩
  by_cases h8 : k = 8
  · subst h8
    refine (act8 m b l es rb zL [] N M a n c w h hi z_inv w0 hk hk0 q1 q2 q3 q4).mono ?_
    rintro e w' ⟨rfl, ht, hb⟩
    exact ⟨_, _, _, rfl, ht, hb, Stp.refl hi _ _⟩
  refine (actO m b l es rb zL [] k N M a n c w h hi z_inv (by simpa using k0) (by simpa using k1) (by simpa using h2) (by simpa using h3) (by simpa using h4) (by simpa using h5) (by simpa using k6) (by simpa using h7) (by simpa using h8)).mono ?_
  rintro e w' ⟨rfl, ht, hb⟩
  exact ⟨_, _, _, rfl, ht, hb, Stp.refl hi _ _⟩
/-- What a Match leaves, the other log lying beside it. -/
def MatK (w : World) (m b : Nat) (l : Lg) (es ys : List Ent) (n : Nat) (rb : Nat) (l2 : Lg) (es2 : List Ent) (e : Ending) (w' : World) : Prop :=
  ∃ r s l' es', e = .returned (.tuple #[.int .i64 r, .bool s]) ∧ Two w' m b l' es' rb l2 es2 ∧ Loc w w' b l l' rb l2 l2 ∧ Stp l es ys n l' es'
theorem matK_any (m b : Nat) (l : Lg) (es : List Ent) (rb : Nat) (l2 : Lg) (es2 : List Ent) (index term : Int) (a : Option Addr) (n c : Nat) (ys : List Ent) (w : World) (h : Two w m b l es rb l2 es2) (hi : Inv l es) (hy : ER w a n ys) (hk : EKs w ys) (hnc : n ≤ c) (hn : l.n + n ≤ 1000) (ht : l.ix + l.n + n ≤ 2199023255552) :
    Calls Try.prog 12 #[.pointer (some ⟨b, 0, none⟩), .int .i64 index, .int .i64 term, .slice a n c] w (MatK w m b l es ys n rb l2 es2) := by
  have hyl := hy.1
  refine (match_any m b l es a n c ys index term w h.lg hi.ok hy hk (by omega) hnc).mono ?_
  rintro e w' (⟨h1, rfl, h3, h4⟩ | ⟨h1, h2, rfl, h3, h4⟩ | ⟨h1, h2, h3, rfl, h4, h5⟩ | ⟨h1, h2, h3, rfl, a', c', h4, h5, h6⟩)
  · exact ⟨_, _, l, es, rfl, h.below (Nat.le_refl _) h4, Loc.same h4 (Nat.le_refl _) _ _ _ _, Stp.refl hi _ _⟩
  · exact ⟨_, _, l, es, rfl, h.below (Nat.le_refl _) h4, Loc.same h4 (Nat.le_refl _) _ _ _ _, Stp.refl hi _ _⟩
  · exact ⟨_, _, l, es, rfl, h.below (Nat.le_refl _) h5, Loc.same h5 (Nat.le_refl _) _ _ _ _, Stp.refl hi _ _⟩
  · obtain ⟨d1, d2⟩ := h.done (kept_b h6) h4 (fun j hj => .inr (h5 j hj)) (Kept.refl _ _) (h.rg1 (kept_b h6)) (fun j hj => .inl hj)
    exact ⟨_, _, _, _, rfl, d1, d2, stp_mat hi h1 (by omega) h3 (by omega) (by omega) a' c' n hyl⟩
/-- What an Append leaves. -/
def AddK (w : World) (m b : Nat) (l : Lg) (es : List Ent) (x : Ent) (rb : Nat) (l2 : Lg) (es2 : List Ent) (e : Ending) (w' : World) : Prop :=
  ∃ r l' es', e = .returned (.int .i64 r) ∧ Two w' m b l' es' rb l2 es2 ∧ Loc w w' b l l' rb l2 l2 ∧ Stp l es [x] 1 l' es'
theorem addK_any (m b : Nat) (l : Lg) (es : List Ent) (rb : Nat) (l2 : Lg) (es2 : List Ent) (x : Ent) (w : World) (h : Two w m b l es rb l2 es2) (hi : Inv l es) (hx : EK w x) (hn : l.n + 1 ≤ 1000) (ht : l.ix + l.n + 1 ≤ 2199023255552) :
    Calls Try.prog 26 #[.pointer (some ⟨b, 0, none⟩), x.v] w (AddK w m b l es x rb l2 es2) := by
  refine (append_any m b l es x w h.lg hi hx).mono ?_
  rintro e w' (⟨h1, rfl, h3, h4⟩ | ⟨h1, rfl, h3, a, c, h4, h5⟩)
  · exact ⟨_, l, es, rfl, h.below (Nat.le_refl _) h4, Loc.same h4 (Nat.le_refl _) _ _ _ _, Stp.refl hi _ _⟩
  · obtain ⟨d1, d2⟩ := h.done h3 h4 h5 (Kept.refl _ _) (h.rg1 h3) (fun j hj => .inl hj)
    exact ⟨_, _, _, rfl, d1, d2, stp_add hi h1 hn ht a c⟩
end Go.Proofs.Ytbgfpmnicpmieaa
