/- Acts on reads that came in, opened. -/
import Derived.Test.YtbjhpifllgoffaaOpen
import Derived.ChangeArms
import Derived.DataReads
namespace Go.Proofs.Ytbjhpifllgoffaa
open Go Go.ChangeShapes Go.WideShapes Go.RowKit
set_option linter.unusedVariables false
set_option linter.unusedSimpArgs false
set_option maxRecDepth 100000
set_option maxHeartbeats 1000000
theorem pick_list {α : Type} [Inhabited α] {n : Nat} {P : Nat → α → Prop} (h : ∀ i, i < n → ∃ e, P i e) : ∃ l : List α, l.length = n ∧ ∀ i, i < n → P i (l.getD i default) := by
  induction n with
  | zero => exact ⟨[], rfl, fun i hi => absurd hi (Nat.not_lt_zero _)⟩
  | succ n ih =>
    obtain ⟨l, hl, hp⟩ := ih fun i hi => h i (by omega)
    obtain ⟨e, he⟩ := h n (by omega)
    refine ⟨l ++ [e], by simp [hl], fun i hi => ?_⟩
    rcases Nat.lt_succ_iff_lt_or_eq.1 hi with h1 | rfl
    · rw [List.getD_eq_getElem?_getD, List.getElem?_append_left (by omega), ← List.getD_eq_getElem?_getD]; exact hp i h1
    · rw [List.getD_eq_getElem?_getD, List.getElem?_append_right (by omega)]; simpa [hl] using he
/-- An act: its kind and three numbers. -/
structure Ac where
  k : Int
  n : Int
  m : Int
  r : Int
deriving Inhabited
abbrev Ac.cs (x : Ac) : List Value := [.int .i64 x.k, .int .i64 x.n, .int .i64 x.m, .int .i64 x.r]
def Ac.wf (x : Ac) : Prop := (Lit.int .i64 x.k).wf = true ∧ (Lit.int .i64 x.n).wf = true ∧ (Lit.int .i64 x.m).wf = true ∧ (Lit.int .i64 x.r).wf = true
def AR (w : World) (a : Option Addr) (n : Nat) (xs : List Ac) : Prop :=
  xs.length = n ∧ (n = 0 ∨ ∃ b off, a = some ⟨b, off, none⟩ ∧ ∀ j, j < n → ∀ c, c < 4 → w.cell? ⟨b, off + j * 4 + c, none⟩ = some ((xs.getD j default).cs.getD c undef)) ∧ ∀ j, j < n → (xs.getD j default).wf
theorem cells52 : Try.prog.cellsOf 52 = 4 := by kernel_rfl
theorem cells3 : Try.prog.cellsOf 3 = 1 := by kernel_rfl
section
variable {H : Type} {enc : TypeId × Value → H} {W : World}
theorem open_num {fuel : Nat} {v : Value} {x : DataW H × List MemPlace} (hf : DataW.trod enc Try.prog W 0 (fun _ => true) true fuel 3 [v] = some x) : ∃ n, v = .int .i64 n ∧ (Lit.int .i64 n).wf = true := by
  obtain ⟨n, hn, _, hwf⟩ := DataW.trod_int Try.underlying3 hf
  simp at hn
  exact ⟨n, hn, hwf⟩
theorem open_ac {fuel : Nat} {cs : List Value} {x : DataW H × List MemPlace} (hf : DataW.trod enc Try.prog W 0 (fun _ => true) true fuel 52 cs = some x) : ∃ e : Ac, cs = e.cs ∧ e.wf := by
  obtain ⟨xs, k, _, hx, hl, hlen, hff⟩ := DataW.trod_struct Try.underlying52 hf
  rw [cells52] at hl
  match cs, hl, xs, hlen, hff with
  | [c0, c1, c2, c3], _, [y0, y1, y2, y3], _, hff =>
    have h0 := hff 0 _ rfl
    have h1 := hff 1 _ rfl
    have h2 := hff 2 _ rfl
    have h3 := hff 3 _ rfl
    simp only [cells3, List.drop_zero, List.drop_succ_cons, List.take_succ_cons, List.take_zero, List.getElem?_cons_zero, List.getElem?_cons_succ] at h0 h1 h2 h3
    obtain ⟨n0, rfl, b0⟩ := open_num h0
    obtain ⟨n1, rfl, b1⟩ := open_num h1
    obtain ⟨n2, rfl, b2⟩ := open_num h2
    obtain ⟨n3, rfl, b3⟩ := open_num h3
    exact ⟨⟨n0, n1, n2, n3⟩, rfl, b0, b1, b2, b3⟩
theorem open_acts {b0 : Nat} {v : Value} {d : DataW H} {ps : List MemPlace} (hval : Value.okWide Try.prog W .any b0 46 v) (hd : DataW.Trod enc Try.prog W 0 (fun _ => true) true 46 v d ps) :
    ∃ a n c xs, v = .slice a n c ∧ AR W a n xs := by
  obtain ⟨s, n, c, rfl⟩ := okWide_slice Try.underlying46 hval
  obtain ⟨fuel, hf⟩ := hd
  rcases DataW.trod_slice Try.underlying46 hf with ⟨hcs, _⟩ | ⟨a, l, c, elems, rest, m, _, hcs, hx, _, hl, hm, hlen, hel, hsp, _⟩
  · simp [Value.cells] at hcs
    obtain ⟨rfl, rfl, rfl⟩ := hcs
    exact ⟨none, 0, 0, [], rfl, rfl, .inl rfl, fun j hj => absurd hj (Nat.not_lt_zero _)⟩
  · simp [Value.cells] at hcs
    obtain ⟨rfl, rfl, rfl⟩ := hcs
    have hall : ∀ i, i < n → ∃ e : Ac, e.wf ∧ ∀ j, j < 4 → W.cell? ((a.add (i * 4)).add j) = some (e.cs.getD j undef) := by
      intro i hi
      have h1 := hel i hi
      rw [cells52, List.getElem?_eq_getElem (by omega)] at h1
      obtain ⟨cs, h2, h3⟩ := Option.bind_eq_some_iff.1 h1
      obtain ⟨e, rfl, hk⟩ := open_ac h3
      refine ⟨e, hk, fun j hj => ?_⟩
      obtain ⟨_, _, h4⟩ := World.cells?_some h2
      rw [h4 j hj, List.getD_eq_getElem?_getD, List.getElem?_eq_getElem (by simpa using hj)]
      rfl
    obtain ⟨es, hes, hp⟩ := pick_list hall
    refine ⟨some a, n, c, es, rfl, hes, ?_, fun j hj => (hp j hj).1⟩
    rcases Nat.eq_zero_or_pos n with h0 | h0
    · exact .inl h0
    · obtain ⟨b, off, spot⟩ := a
      have h1 := (hp 0 h0).2 0 (by omega)
      have hs : spot = none := by simpa [Addr.add] using World.cell?_spot h1
      subst hs
      refine .inr ⟨b, off, rfl, fun j hj c hc => ?_⟩
      have := (hp j hj).2 c hc
      rwa [Addr.add_lit, Addr.add_lit] at this
end
end Go.Proofs.Ytbjhpifllgoffaa
