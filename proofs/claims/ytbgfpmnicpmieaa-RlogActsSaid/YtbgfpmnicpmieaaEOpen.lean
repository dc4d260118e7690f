/- Entries, beginnings and acts that came in, opened. -/
import Derived.Test.YtbgfpmnicpmieaaEHint
import Derived.ChangeArms
import Derived.ChangeSame
import Derived.ChangeSlices
import Derived.WideShapes
import Derived.DataReads
namespace Go.Proofs.Ytbgfpmnicpmieaa
open Go Go.ChangeShapes Go.WideShapes Go.RowKit
set_option linter.unusedVariables false
set_option linter.unusedSimpArgs false
set_option maxRecDepth 100000
set_option maxHeartbeats 1000000
theorem cells33 : Try.prog.cellsOf 33 = 1 := by kernel_rfl
theorem cells9 : Try.prog.cellsOf 9 = 1 := by kernel_rfl
theorem cells32 : Try.prog.cellsOf 32 = 8 := by kernel_rfl
theorem cells35 : Try.prog.cellsOf 35 = 2 := by kernel_rfl
theorem cells37 : Try.prog.cellsOf 37 = 13 := by kernel_rfl
theorem cells24 : Try.prog.cellsOf 24 = 3 := by kernel_rfl
theorem bytes3 : Try.prog.bytesOf 3 = 8 := by kernel_rfl
theorem bytes37 : Try.prog.bytesOf 37 = 168 := by kernel_rfl
theorem bytes48 : Try.prog.bytesOf 48 = 48 := by kernel_rfl
/-- A list whose elements each have a property. -/
theorem pick_list {α : Type} [Inhabited α] {n : Nat} {P : Nat → α → Prop} (h : ∀ i, i < n → ∃ e, P i e) : ∃ l : List α, l.length = n ∧ ∀ i, i < n → P i (l.getD i default) := by
  induction n with
  | zero => exact ⟨[], rfl, fun i hi => absurd hi (Nat.not_lt_zero _)⟩
  | succ n ih =>
    obtain ⟨l, hl, hp⟩ := ih fun i hi => h i (by omega)
    obtain ⟨e, he⟩ := h n (by omega)
    refine ⟨l ++ [e], by simp [hl], fun i hi => ?_⟩
    rcases Nat.lt_succ_iff_lt_or_eq.1 hi with h1 | rfl
    · rw [List.getD_eq_getElem?_getD, List.getElem?_append_left (by omega), ← List.getD_eq_getElem?_getD]; exact hp i h1
    · rw [List.getD_eq_getElem?_getD, List.getElem?_append_right (by omega)]; simpa [hl] using he
section
variable {H : Type} {enc : TypeId × Value → H} {W : World}
def Fit (t : TypeId) (d : DataW H) : Prop := ∀ q ∈ DataW.weights Try.prog t d, q ≤ reachBytes
theorem open_list {fuel : Nat} {v : Value} {x : DataW H × List MemPlace} (hf : DataW.trod enc Try.prog W 0 (fun _ => true) true fuel 33 [v] = some x) (hw : Fit 33 x.1) : ∃ a n c V, v = .slice a n c ∧ Rd W a n V ∧ n ≤ 281474976710656 := by
  rcases open_ints Try.underlying33 Try.underlying3 (by kernel_rfl) hf with ⟨hcs, _⟩ | ⟨y, l, c, zs, hcs, _, hl, hm, hz, hx, hcell, hwz⟩
  · simp at hcs
    exact ⟨none, 0, 0, [], hcs, ⟨rfl, .inl rfl⟩, by omega⟩
  · simp at hcs
    have hz' : zs.length = c := by simpa using hz
    have hr : IsRow W (some y) l c zs := .inr ⟨_, rfl, hl, hm, hz', hcell, hwz⟩
    refine ⟨some y, l, c, zs.take l, hcs, hr.rd, ?_⟩
    have := hw (c * 8) (by
      rw [hx]
      simp only [DataW.weights, Try.underlying33, bytes3, List.mem_cons]
      left
      simp [lits, List.length_take, List.length_drop]
      omega)
    simp only [reachBytes] at this
    omega
theorem open_str {fuel : Nat} {v : Value} {x : DataW H × List MemPlace} (hf : DataW.trod enc Try.prog W 0 (fun _ => true) true fuel 9 [v] = some x) (hw : Fit 9 x.1) : ∃ s, v = .string s ∧ s.size ≤ 140737488355328 := by
  obtain ⟨s, hs, rfl, _⟩ := DataW.trod_string Try.underlying9 hf
  simp at hs
  refine ⟨s, hs, ?_⟩
  have := hw s.data.toList.length (by simp only [DataW.weights, List.mem_singleton])
  simp only [reachBytes] at this
  have e : s.data.toList.length = s.size := by rw [Array.length_toList]; rfl
  omega
theorem open_num {fuel : Nat} {v : Value} {x : DataW H × List MemPlace} (hf : DataW.trod enc Try.prog W 0 (fun _ => true) true fuel 3 [v] = some x) : ∃ n, v = .int .i64 n ∧ -9223372036854775808 ≤ n ∧ n ≤ 9223372036854775807 := by
  obtain ⟨n, hn, _, hwf⟩ := DataW.trod_int Try.underlying3 hf
  simp at hn
  exact ⟨n, hn, bounds_i64 hwf⟩
/-- A struct's parts weigh no more than it. -/
theorem fit_parts {t : TypeId} {fs : Array Field} (ht : Try.prog.underlying t = some (.struct fs)) {parts : List (DataW H)} (h : Fit t (.agg parts)) : ∀ (ts : List TypeId) (ds : List (DataW H)), fs.toList.map (·.type) = ts → parts = ds → ∀ q ∈ DataW.weightsEach Try.prog ts ds, q ≤ reachBytes := by
  rintro ts ds rfl rfl q hq
  exact h q (by simp only [DataW.weights, ht]; exact hq)
theorem fit_cons {t : TypeId} {ts : List TypeId} {d : DataW H} {ds : List (DataW H)} (h : ∀ q ∈ DataW.weightsEach Try.prog (t :: ts) (d :: ds), q ≤ reachBytes) : Fit t d ∧ ∀ q ∈ DataW.weightsEach Try.prog ts ds, q ≤ reachBytes :=
  ⟨fun q hq => h q (by simp only [DataW.weightsEach, List.mem_append]; exact .inl hq), fun q hq => h q (by simp only [DataW.weightsEach, List.mem_append]; exact .inr hq)⟩
theorem fit_elem {t e : TypeId} (ht : Try.prog.underlying t = some (.slice e)) {el sp : List (DataW H)} (h : Fit t (.slice el sp)) : (el.length + sp.length) * Try.prog.bytesOf e ≤ reachBytes ∧ ∀ d ∈ el, Fit e d := by
  constructor
  · exact h _ (by simp only [DataW.weights, ht]; exact List.mem_cons_self ..)
  · intro d hd q hq
    refine h q ?_
    simp only [DataW.weights, ht, List.mem_cons, List.mem_append]
    refine .inr (.inl ?_)
    clear h
    induction el with
    | nil => cases hd
    | cons a r ih =>
      simp only [DataW.weightsAll, List.mem_append]
      rcases List.mem_cons.1 hd with rfl | h1
      · exact .inl hq
      · exact .inr (ih h1)
def CmdOf (cs : List Value) : Prop := ∃ (k s q : Int) (a b c d : ByteArray) (l : Int), cs = [.int .i64 k, .int .i64 s, .int .i64 q, .string a, .string b, .string c, .string d, .int .i64 l] ∧ a.size ≤ 140737488355328 ∧ b.size ≤ 140737488355328 ∧ c.size ≤ 140737488355328 ∧ d.size ≤ 140737488355328
theorem open_cmd {fuel : Nat} {cs : List Value} {x : DataW H × List MemPlace} (hf : DataW.trod enc Try.prog W 0 (fun _ => true) true fuel 32 cs = some x) (hw : Fit 32 x.1) : CmdOf cs := by
  obtain ⟨xs, k, _, hx, hl, hlen, hff⟩ := DataW.trod_struct Try.underlying32 hf
  rw [cells32] at hl
  match cs, hl, xs, hlen, hff with
  | [c0, c1, c2, c3, c4, c5, c6, c7], _, [y0, y1, y2, y3, y4, y5, y6, y7], _, hff =>
    have hp := fit_parts Try.underlying32 (by rw [hx] at hw; exact hw) [3, 3, 3, 9, 9, 9, 9, 3] _ rfl rfl
    simp only [List.map_cons, List.map_nil] at hp
    obtain ⟨f0, hp⟩ := fit_cons hp
    obtain ⟨f1, hp⟩ := fit_cons hp
    obtain ⟨f2, hp⟩ := fit_cons hp
    obtain ⟨f3, hp⟩ := fit_cons hp
    obtain ⟨f4, hp⟩ := fit_cons hp
    obtain ⟨f5, hp⟩ := fit_cons hp
    obtain ⟨f6, hp⟩ := fit_cons hp
    obtain ⟨f7, hp⟩ := fit_cons hp
    have h0 := hff 0 _ rfl
    have h1 := hff 1 _ rfl
    have h2 := hff 2 _ rfl
    have h3 := hff 3 _ rfl
    have h4 := hff 4 _ rfl
    have h5 := hff 5 _ rfl
    have h6 := hff 6 _ rfl
    have h7 := hff 7 _ rfl
    simp only [cells3, cells9, List.drop_zero, List.drop_succ_cons, List.take_succ_cons, List.take_zero, List.getElem?_cons_zero, List.getElem?_cons_succ] at h0 h1 h2 h3 h4 h5 h6 h7
    obtain ⟨n0, rfl, _⟩ := open_num h0
    obtain ⟨n1, rfl, _⟩ := open_num h1
    obtain ⟨n2, rfl, _⟩ := open_num h2
    obtain ⟨s3, rfl, b3⟩ := open_str h3 f3
    obtain ⟨s4, rfl, b4⟩ := open_str h4 f4
    obtain ⟨s5, rfl, b5⟩ := open_str h5 f5
    obtain ⟨s6, rfl, b6⟩ := open_str h6 f6
    obtain ⟨n7, rfl, _⟩ := open_num h7
    exact ⟨n0, n1, n2, s3, s4, s5, s6, n7, rfl, b3, b4, b5, b6⟩
theorem open_mem {fuel : Nat} {cs : List Value} {x : DataW H × List MemPlace} (hf : DataW.trod enc Try.prog W 0 (fun _ => true) true fuel 35 cs = some x) (hw : Fit 35 x.1) :
    ∃ a n c V b m d L, cs = [.slice a n c, .slice b m d] ∧ Rd W a n V ∧ n ≤ 281474976710656 ∧ Rd W b m L ∧ m ≤ 281474976710656 := by
  obtain ⟨xs, k, _, hx, hl, hlen, hff⟩ := DataW.trod_struct Try.underlying35 hf
  rw [cells35] at hl
  match cs, hl, xs, hlen, hff with
  | [c0, c1], _, [y0, y1], _, hff =>
    have hp := fit_parts Try.underlying35 (by rw [hx] at hw; exact hw) [33, 33] _ rfl rfl
    simp only [List.map_cons, List.map_nil] at hp
    obtain ⟨f0, hp⟩ := fit_cons hp
    obtain ⟨f1, hp⟩ := fit_cons hp
    have h0 := hff 0 _ rfl
    have h1 := hff 1 _ rfl
    simp only [cells33, List.drop_zero, List.drop_succ_cons, List.take_succ_cons, List.take_zero, List.getElem?_cons_zero, List.getElem?_cons_succ] at h0 h1
    obtain ⟨a, n, c, V, rfl, r1, l1⟩ := open_list h0 f0
    obtain ⟨b, m, d, L, rfl, r2, l2⟩ := open_list h1 f1
    exact ⟨a, n, c, V, b, m, d, L, rfl, r1, l1, r2, l2⟩
theorem open_ent {fuel : Nat} {cs : List Value} {x : DataW H × List MemPlace} (hf : DataW.trod enc Try.prog W 0 (fun _ => true) true fuel 37 cs = some x) (hw : Fit 37 x.1) : ∃ e : Ent, cs = e.cs' ∧ EK W e := by
  obtain ⟨xs, k, _, hx, hl, hlen, hff⟩ := DataW.trod_struct Try.underlying37 hf
  rw [cells37] at hl
  match cs, hl, xs, hlen, hff with
  | [c0, c1, c2, c3, c4, c5, c6, c7, c8, c9, c10, c11, c12], _, [y0, y1, y2, y3, y4], _, hff =>
    have hp := fit_parts Try.underlying37 (by rw [hx] at hw; exact hw) [3, 3, 3, 32, 35] _ rfl rfl
    simp only [List.map_cons, List.map_nil] at hp
    obtain ⟨f0, hp⟩ := fit_cons hp
    obtain ⟨f1, hp⟩ := fit_cons hp
    obtain ⟨f2, hp⟩ := fit_cons hp
    obtain ⟨f3, hp⟩ := fit_cons hp
    obtain ⟨f4, hp⟩ := fit_cons hp
    have h0 := hff 0 _ rfl
    have h1 := hff 1 _ rfl
    have h2 := hff 2 _ rfl
    have h3 := hff 3 _ rfl
    have h4 := hff 4 _ rfl
    simp only [cells3, cells32, cells35, List.drop_zero, List.drop_succ_cons, List.take_succ_cons, List.take_zero, List.getElem?_cons_zero, List.getElem?_cons_succ] at h0 h1 h2 h3 h4
    obtain ⟨n0, rfl, a1, a2⟩ := open_num h0
    obtain ⟨n1, rfl, b1, b2⟩ := open_num h1
    obtain ⟨n2, rfl, _⟩ := open_num h2
    obtain ⟨ck, cs, cq, sa, sb, sc, sd, cl, e3, m1, m2, m3, m4⟩ := open_cmd h3 f3
    obtain ⟨va, vn, vc, V, la, ln, lc, L, e4, r1, l1, r2, l2⟩ := open_mem h4 f4
    cases e3
    cases e4
    exact ⟨⟨n0, n1, n2, ck, cs, cq, sa, sb, sc, sd, cl, va, vn, vc, la, ln, lc, V, L⟩, rfl, ⟨r1, r2, l1, l2, a1, a2, b1, b2, by dsimp only; omega⟩⟩
theorem open_ents {fuel : Nat} {v : Value} {x : DataW H × List MemPlace} (hf : DataW.trod enc Try.prog W 0 (fun _ => true) true fuel 22 [v] = some x) (hw : Fit 22 x.1) : ∃ a n c es, v = .slice a n c ∧ ER W a n es ∧ EKs W es ∧ (n * 168 ≤ 140737488355328 ∧ n ≤ c) := by
  rcases DataW.trod_slice Try.underlying22 hf with ⟨hcs, _⟩ | ⟨a, l, c, elems, rest, m, _, hcs, hx, _, hl, hm, hlen, hel, hsp, _⟩
  · simp at hcs
    exact ⟨none, 0, 0, [], hcs, ⟨rfl, .inl rfl⟩, (fun e he => by cases he), by omega, Nat.le_refl _⟩
  · simp at hcs
    rw [hx] at hw
    have hfe := fit_elem Try.underlying22 hw
    have hcap : l * 168 ≤ 140737488355328 := by
      have h1 := hfe.1
      rw [bytes37] at h1
      simp only [List.length_map, reachBytes] at h1
      rw [hlen] at h1
      have : l * 168 ≤ (l + rest.length) * 168 := Nat.mul_le_mul_right _ (Nat.le_add_right _ _)
      omega
    have hall : ∀ i, i < l → ∃ e : Ent, EK W e ∧ ∀ j, j < 13 → W.cell? ((a.add (i * 13)).add j) = some (e.cs'.getD j undef) := by
      intro i hi
      have h1 := hel i hi
      rw [cells37, List.getElem?_eq_getElem (by omega)] at h1
      obtain ⟨cs, h2, h3⟩ := Option.bind_eq_some_iff.1 h1
      obtain ⟨e, rfl, hk⟩ := open_ent h3 (hfe.2 _ (by simp only [List.mem_map]; exact ⟨_, List.getElem_mem _, rfl⟩))
      refine ⟨e, hk, fun j hj => ?_⟩
      obtain ⟨_, _, h4⟩ := World.cells?_some h2
      rw [h4 j hj, List.getD_eq_getElem?_getD, List.getElem?_eq_getElem (by simpa using hj)]
      rfl
    obtain ⟨es, hes, hp⟩ := pick_list hall
    refine ⟨some a, l, c, es, hcs, ⟨hes, ?_⟩, fun e he => ?_, hcap, hl⟩
    · rcases Nat.eq_zero_or_pos l with h0 | h0
      · exact .inl h0
      · obtain ⟨b, off, spot⟩ := a
        have h1 := (hp 0 h0).2 0 (by omega)
        have hs : spot = none := by simpa [Addr.add] using World.cell?_spot h1
        subst hs
        refine .inr ⟨b, off, rfl, fun j hj c hc => ?_⟩
        have := (hp j hj).2 c hc
        rwa [Addr.add_lit, Addr.add_lit] at this
    · obtain ⟨j, hj, rfl⟩ := List.getElem_of_mem he
      have := (hp j (by omega)).1
      rwa [List.getD_eq_getElem?_getD, List.getElem?_eq_getElem hj] at this
theorem open_begin {b0 : Nat} {v : Value} {d : DataW H} {ps : List MemPlace} (hval : Value.okWide Try.prog W .any b0 24 v) (hd : DataW.Trod enc Try.prog W 0 (fun _ => true) true 24 v d ps) (hw : Fit 24 d) :
    ∃ i t a n c es, v = .agg #[.int .i64 i, .int .i64 t, .slice a n c] ∧ ER W a n es ∧ EKs W es ∧ (n * 168 ≤ 140737488355328 ∧ n ≤ c) := by
  obtain ⟨cs, rfl, hs⟩ := okWide_struct Try.underlying24 hval
  rw [cells24] at hs
  obtain ⟨fuel, hf⟩ := hd
  obtain ⟨xs, k, _, hx, hl, hlen, hff⟩ := DataW.trod_struct Try.underlying24 hf
  obtain ⟨cs⟩ := cs
  match cs, hs, xs, hlen, hff with
  | [c0, c1, c2], _, [y0, y1, y2], _, hff =>
    have hx' : d = .agg ([y0, y1, y2].map (·.1)) := congrArg Prod.fst hx
    have hp := fit_parts Try.underlying24 (by rw [hx'] at hw; exact hw) [3, 3, 22] _ rfl rfl
    simp only [List.map_cons, List.map_nil] at hp
    obtain ⟨f0, hp⟩ := fit_cons hp
    obtain ⟨f1, hp⟩ := fit_cons hp
    obtain ⟨f2, hp⟩ := fit_cons hp
    have h0 := hff 0 _ rfl
    have h1 := hff 1 _ rfl
    have h2 := hff 2 _ rfl
    simp only [Value.cells, cells3, cells22, List.drop_zero, List.drop_succ_cons, List.take_succ_cons, List.take_zero, List.getElem?_cons_zero, List.getElem?_cons_succ] at h0 h1 h2
    obtain ⟨n0, rfl, _⟩ := open_num h0
    obtain ⟨n1, rfl, _⟩ := open_num h1
    obtain ⟨a, n, c, es, rfl, r1, r2, r3⟩ := open_ents h2 f2
    exact ⟨n0, n1, a, n, c, es, rfl, r1, r2, r3⟩
theorem open_es {b0 : Nat} {v : Value} {d : DataW H} {ps : List MemPlace} (hval : Value.okWide Try.prog W .any b0 22 v) (hd : DataW.Trod enc Try.prog W 0 (fun _ => true) true 22 v d ps) (hw : Fit 22 d) :
    ∃ a n c es, v = .slice a n c ∧ ER W a n es ∧ EKs W es ∧ (n * 168 ≤ 140737488355328 ∧ n ≤ c) := by
  obtain ⟨s, n, c, rfl⟩ := okWide_slice Try.underlying22 hval
  obtain ⟨fuel, hf⟩ := hd
  obtain ⟨a, n', c', es, e, r⟩ := open_ents hf hw
  cases e
  exact ⟨_, _, _, es, rfl, r⟩
end
/-- An act: what it is and what it is done with. -/
structure Ac where
  k : Int
  n : Int
  m : Int
  a : Option Addr
  len : Nat
  cap : Nat
  es : List Ent
deriving Inhabited
abbrev Ac.cs (x : Ac) : List Value := [.int .i64 x.k, .int .i64 x.n, .int .i64 x.m, .slice x.a x.len x.cap]
structure AK (w : World) (x : Ac) : Prop where
  er : ER w x.a x.len x.es
  ek : EKs w x.es
  fit : x.len * 168 ≤ 140737488355328 ∧ x.len ≤ x.cap
  n1 : -9223372036854775808 ≤ x.n
  n2 : x.n ≤ 9223372036854775807
  m1 : -9223372036854775808 ≤ x.m
  m2 : x.m ≤ 9223372036854775807
theorem AK.keep {w w' : World} {x : Ac} {m : Nat} (h : AK w x) (hm : w.heap.size ≤ m) (hb : Below m w w') : AK w' x :=
  ⟨h.er.keep hm hb, h.ek.keep hm hb, h.fit, h.n1, h.n2, h.m1, h.m2⟩
/-- Acts in a row. -/
def AR (w : World) (a : Option Addr) (n : Nat) (xs : List Ac) : Prop :=
  xs.length = n ∧ (n = 0 ∨ ∃ b off, a = some ⟨b, off, none⟩ ∧ ∀ j, j < n → ∀ c, c < 4 → w.cell? ⟨b, off + j * 4 + c, none⟩ = some ((xs.getD j default).cs.getD c undef))
def AKs (w : World) (xs : List Ac) : Prop := ∀ x, x ∈ xs → AK w x
theorem AR.keep {w w' : World} {a : Option Addr} {n : Nat} {l : List Ac} {m : Nat} (h : AR w a n l) (hm : w.heap.size ≤ m) (hb : Below m w w') : AR w' a n l := by
  refine ⟨h.1, ?_⟩
  rcases h.2 with h0 | ⟨b, off, e, hc⟩
  · exact .inl h0
  · refine .inr ⟨b, off, e, fun j hj c hc' => ?_⟩
    have h1 := hc j hj c hc'
    exact (hb.cell (Nat.lt_of_lt_of_le (cell_block_lt h1) hm)).trans h1
theorem AKs.keep {w w' : World} {xs : List Ac} {m : Nat} (h : AKs w xs) (hm : w.heap.size ≤ m) (hb : Below m w w') : AKs w' xs := fun e he => (h e he).keep hm hb
section
variable {H : Type} {enc : TypeId × Value → H} {W : World}
theorem open_ac {fuel : Nat} {cs : List Value} {x : DataW H × List MemPlace} (hf : DataW.trod enc Try.prog W 0 (fun _ => true) true fuel 48 cs = some x) (hw : Fit 48 x.1) : ∃ e : Ac, cs = e.cs ∧ AK W e := by
  obtain ⟨xs, k, _, hx, hl, hlen, hff⟩ := DataW.trod_struct Try.underlying48 hf
  rw [cells48] at hl
  match cs, hl, xs, hlen, hff with
  | [c0, c1, c2, c3], _, [y0, y1, y2, y3], _, hff =>
    have hp := fit_parts Try.underlying48 (by rw [hx] at hw; exact hw) [3, 3, 3, 22] _ rfl rfl
    simp only [List.map_cons, List.map_nil] at hp
    obtain ⟨f0, hp⟩ := fit_cons hp
    obtain ⟨f1, hp⟩ := fit_cons hp
    obtain ⟨f2, hp⟩ := fit_cons hp
    obtain ⟨f3, hp⟩ := fit_cons hp
    have h0 := hff 0 _ rfl
    have h1 := hff 1 _ rfl
    have h2 := hff 2 _ rfl
    have h3 := hff 3 _ rfl
    simp only [cells3, cells22, List.drop_zero, List.drop_succ_cons, List.take_succ_cons, List.take_zero, List.getElem?_cons_zero, List.getElem?_cons_succ] at h0 h1 h2 h3
    obtain ⟨n0, rfl, _⟩ := open_num h0
    obtain ⟨n1, rfl, a1, a2⟩ := open_num h1
    obtain ⟨n2, rfl, b1, b2⟩ := open_num h2
    obtain ⟨a, n, c, es, rfl, r1, r2, r3⟩ := open_ents h3 f3
    exact ⟨⟨n0, n1, n2, a, n, c, es⟩, rfl, ⟨r1, r2, r3, a1, a2, b1, b2⟩⟩
theorem open_acts {b0 : Nat} {v : Value} {d : DataW H} {ps : List MemPlace} (hval : Value.okWide Try.prog W .any b0 46 v) (hd : DataW.Trod enc Try.prog W 0 (fun _ => true) true 46 v d ps) (hw : Fit 46 d) :
    ∃ a n c xs, v = .slice a n c ∧ AR W a n xs ∧ AKs W xs ∧ n ≤ 281474976710656 := by
  obtain ⟨s, n, c, rfl⟩ := okWide_slice Try.underlying46 hval
  obtain ⟨fuel, hf⟩ := hd
  rcases DataW.trod_slice Try.underlying46 hf with ⟨hcs, _⟩ | ⟨a, l, c, elems, rest, m, _, hcs, hx, _, hl, hm, hlen, hel, hsp, _⟩
  · simp [Value.cells] at hcs
    obtain ⟨rfl, rfl, rfl⟩ := hcs
    exact ⟨none, 0, 0, [], rfl, ⟨rfl, .inl rfl⟩, (fun e he => by cases he), by omega⟩
  · simp [Value.cells] at hcs
    obtain ⟨rfl, rfl, rfl⟩ := hcs
    have hx' : d = .slice (elems.map (·.1)) (rest.map (·.1)) := congrArg Prod.fst hx
    rw [hx'] at hw
    have hfe := fit_elem Try.underlying46 hw
    have hcap : n ≤ 281474976710656 := by
      have h1 := hfe.1
      rw [bytes48] at h1
      simp only [List.length_map, reachBytes] at h1
      rw [hlen] at h1
      have : n * 48 ≤ (n + rest.length) * 48 := Nat.mul_le_mul_right _ (Nat.le_add_right _ _)
      omega
    have hall : ∀ i, i < n → ∃ e : Ac, AK W e ∧ ∀ j, j < 4 → W.cell? ((a.add (i * 4)).add j) = some (e.cs.getD j undef) := by
      intro i hi
      have h1 := hel i hi
      rw [cells48, List.getElem?_eq_getElem (by omega)] at h1
      obtain ⟨cs, h2, h3⟩ := Option.bind_eq_some_iff.1 h1
      obtain ⟨e, rfl, hk⟩ := open_ac h3 (hfe.2 _ (by simp only [List.mem_map]; exact ⟨_, List.getElem_mem _, rfl⟩))
      refine ⟨e, hk, fun j hj => ?_⟩
      obtain ⟨_, _, h4⟩ := World.cells?_some h2
      rw [h4 j hj, List.getD_eq_getElem?_getD, List.getElem?_eq_getElem (by simpa using hj)]
      rfl
    obtain ⟨es, hes, hp⟩ := pick_list hall
    refine ⟨some a, n, c, es, rfl, ⟨hes, ?_⟩, fun e he => ?_, hcap⟩
    · rcases Nat.eq_zero_or_pos n with h0 | h0
      · exact .inl h0
      · obtain ⟨b, off, spot⟩ := a
        have h1 := (hp 0 h0).2 0 (by omega)
        have hs : spot = none := by simpa [Addr.add] using World.cell?_spot h1
        subst hs
        refine .inr ⟨b, off, rfl, fun j hj c hc => ?_⟩
        have := (hp j hj).2 c hc
        rwa [Addr.add_lit, Addr.add_lit] at this
    · obtain ⟨j, hj, rfl⟩ := List.getElem_of_mem he
      have := (hp j (by omega)).1
      rwa [List.getD_eq_getElem?_getD, List.getElem?_eq_getElem hj] at this
end
end Go.Proofs.Ytbgfpmnicpmieaa
