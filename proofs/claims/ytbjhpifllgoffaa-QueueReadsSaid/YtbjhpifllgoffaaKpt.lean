/- What stays as it was; reads that wait, in memory. -/
import Derived.Test.YtbjhpifllgoffaaAdd
import Derived.Test.YtbjhpifllgoffaaWho
import Derived.Laws.Slices
namespace Go.Proofs.Ytbjhpifllgoffaa
open Go Go.RowKit Go.Maps
set_option linter.unusedVariables false
set_option linter.unusedSimpArgs false
set_option maxRecDepth 100000
set_option maxHeartbeats 1000000
/-! ### What is kept -/
/-- What is not in S is as it was. -/
structure Kept (S : Nat → Prop) (w w' : World) : Prop where
  os : w'.os = w.os
  tape : w'.tape = w.tape
  output : w'.output = w.output
  size : w.heap.size ≤ w'.heap.size
  block : ∀ k, k < w.heap.size → ¬ S k → w'.heap[k]? = w.heap[k]?
theorem Kept.of {S : Nat → Prop} {w w' : World} {m : Nat} (h : Below m w w') (hm : w.heap.size ≤ m) : Kept S w w' := ⟨h.os, h.tape, h.output, h.size, fun k hk _ => h.block k (Nat.lt_of_lt_of_le hk hm)⟩
theorem Kept.refl (S : Nat → Prop) (w : World) : Kept S w w := ⟨rfl, rfl, rfl, Nat.le_refl _, fun _ _ _ => rfl⟩
theorem Kept.trans {S : Nat → Prop} {a b c : World} (h : Kept S a b) (k : Kept S b c) : Kept S a c :=
  ⟨k.os.trans h.os, k.tape.trans h.tape, k.output.trans h.output, Nat.le_trans h.size k.size, fun i hi hn => (k.block i (Nat.lt_of_lt_of_le hi h.size) hn).trans (h.block i hi hn)⟩
/-- One behind the other, where the second one writes to what the first one left alone. -/
theorem Kept.join {S T U : Nat → Prop} {a b c : World} (h : Kept S a b) (k : Kept T b c) (hS : ∀ i, S i → U i) (hT : ∀ i, i < a.heap.size → T i → U i) : Kept U a c :=
  ⟨k.os.trans h.os, k.tape.trans h.tape, k.output.trans h.output, Nat.le_trans h.size k.size, fun i hi hn => (k.block i (Nat.lt_of_lt_of_le hi h.size) (fun e => hn (hT i hi e))).trans (h.block i hi (fun e => hn (hS i e)))⟩
theorem Kept.drew {S : Nat → Prop} {a w : World} (h : Kept S a w) : Kept S a w.drew := ⟨h.os, h.tape, h.output, h.size, h.block⟩
theorem Kept.weaken {S T : Nat → Prop} {a w : World} (h : Kept S a w) (hs : ∀ k, S k → T k) : Kept T a w := ⟨h.os, h.tape, h.output, h.size, fun k hk ht => h.block k hk fun hh => ht (hs k hh)⟩
theorem Kept.setCell {S : Nat → Prop} {a w : World} (h : Kept S a w) {p : Addr} (hp : S p.block ∨ a.heap.size ≤ p.block) (u : Value) : Kept S a (w.setCell p u) :=
  ⟨h.os, h.tape, h.output, by simpa [World.setCell] using h.size, fun k hk hn => (Below.heap_setCell w p u k (fun e => by subst e; rcases hp with hp | hp; exact hn hp; omega)).trans (h.block k hk hn)⟩
theorem Kept.alloc {S : Nat → Prop} {a w : World} (h : Kept S a w) (o : Obj) : Kept S a (w.alloc o) :=
  ⟨h.os, h.tape, h.output, by have := h.size; simp; omega, fun k hk hn => (Below.heap_alloc w o k (by have := h.size; omega)).trans (h.block k hk hn)⟩
theorem Kept.below {S : Nat → Prop} {w w' : World} {m : Nat} (h : Kept S w w') (hm : m ≤ w.heap.size) (hs : ∀ k, k < w.heap.size → S k → m ≤ k) : Below m w w' :=
  ⟨h.os, h.tape, h.output, h.size, fun k hk => h.block k (by omega) fun hh => by have := hs k (by omega) hh; omega⟩
theorem Kept.bl {S : Nat → Prop} {a w w' : World} (h : Kept S a w) {m : Nat} (hb : Below m w w') (hm : a.heap.size ≤ m) : Kept S a w' :=
  ⟨hb.os.trans h.os, hb.tape.trans h.tape, hb.output.trans h.output, Nat.le_trans h.size hb.size, fun k hk hn => (hb.block k (by omega)).trans (h.block k hk hn)⟩
theorem cell_lt {w : World} {p : Addr} {v : Value} (h : w.cell? p = some v) : p.block < w.heap.size := World.block_lt_of_cell? _ _ h
theorem kept_cell {S : Nat → Prop} {w w' : World} {p : Addr} {v : Value} (hk : Kept S w w') (h : w.cell? p = some v) (hs : ¬ S p.block) : w'.cell? p = some v :=
  (World.cell?_of_block (w := w) (hk.block p.block (cell_lt h) hs)).trans h
theorem low_cell {m : Nat} {w w' : World} {p : Addr} {v : Value} (hb : Below m w w') (hm : w.heap.size ≤ m) (h : w.cell? p = some v) : w'.cell? p = some v :=
  (hb.cell (Nat.lt_of_lt_of_le (cell_lt h) hm)).trans h

theorem Kept.grown {S : Nat → Prop} {a w w' : World} {row : Option Nat} (h : Kept S a w) (hg : w.grownBy w' row) (hr : ∀ r, row = some r → S r ∨ a.heap.size ≤ r) : Kept S a w' :=
  ⟨hg.os.trans h.os, hg.tape.trans h.tape, hg.output.trans h.output, Nat.le_trans h.size hg.size, fun i hi hn => (hg.block i (Nat.lt_of_lt_of_le hi h.size) (fun e => by
    rcases hr i e.symm with h1 | h1
    · exact hn h1
    · omega)).trans (h.block i hi hn)⟩

theorem Win.blocks {w w' : World} {base : Nat} {e : TypeId} {size : Nat} {v : Value} {n : Nat} {xs : List Value} {S : Nat → Prop} (h : Win w base e size v n xs) (hk : Kept S w w') (hs : ∀ j, v.ownBlock = some j → ¬ S j) : Win w' base e size v n xs :=
  h.keep fun j hj _ hlt => hk.block j hlt (hs j hj.symm)
theorem Rd.blocks {w w' : World} {a : Option Addr} {n : Nat} {l : List Int} {S : Nat → Prop} (h : Rd w a n l) (hk : Kept S w w') (hs : 0 < n → ∀ b off, a = some ⟨b, off, none⟩ → ¬ S b) : Rd w' a n l := by
  refine ⟨h.1, ?_⟩
  rcases h.2 with h0 | ⟨b, off, e, hc⟩
  · exact .inl h0
  · exact .inr ⟨b, off, e, fun j hj => kept_cell hk (hc j hj) (hs (by omega) b off e)⟩
/-- A list of numbers does not lie in a block of a slice and a map. -/
theorem Rd.ne {w : World} {a : Option Addr} {n b : Nat} {l : List Int} (h : Rd w a n l) (hn : ∀ off x, w.cell? ⟨b, off, none⟩ ≠ some (.int .i64 x)) : 0 < n → ∀ b' off, a = some ⟨b', off, none⟩ → b' ≠ b := by
  intro h0 b' off e hbb
  subst hbb
  rcases h.2 with h1 | ⟨b2, off2, e2, hc⟩
  · omega
  · rw [e] at e2
    injection e2 with e3
    injection e3 with e4 e5
    subst e4
    exact hn _ _ (hc 0 h0)
/-- The first one goes: the operation and what is left. -/
theorem win_cut {P : Program} {T : TypeId} {w : World} {base : Nat} {e : TypeId} {size n c : Nat} {a : Option Addr} {xs : List Value} (ht : P.underlying T = some (.slice (P.elem T))) (hs : ∀ W, (sizeOf (P.elem T)).run P W = .ok size W)
    (h : Win w base e size (.slice a (n + 1) c) (n + 1) xs) : ∃ a2, (∀ W, (Instr.slice T (.slice a (n + 1) c) (some (.int .i64 1)) none none).run P W = .ok (.slice a2 n (c - 1)) W) ∧ Win w base e size (.slice a2 n (c - 1)) n (xs.drop size) ∧ (Value.slice a2 n (c - 1)).ownBlock = (Value.slice a (n + 1) c).ownBlock := by
  obtain ⟨g, off, cap, hv, hg, hnc, hcell⟩ := h.cell (by omega)
  injection hv with h1 h2 h3
  subst h1 h3
  refine ⟨if c = 1 then some ⟨g, off, none⟩ else some ⟨g, off + size, none⟩, fun W => ?_, ?_, ?_⟩
  · rw [run_slice_l W T _ (n + 1) c ht _ _ (by omega) (by omega), hs]
    simp only [Result.andThen_ok, sliced]
    simp only [Int.reduceToNat, Nat.one_mul, Nat.add_sub_cancel]
    split <;> simp [Addr.add]
  · by_cases hc : c = 1
    · rw [if_pos hc]; exact h.tail.1 hc
    · rw [if_neg hc]; exact h.tail.2
  · split <;> rfl
/-! ### reads that wait -/
structure RP where
  b : Nat
  mb : Nat
  v : Value
def RP.own (p : RP) (j : Nat) : Prop := j = p.b ∨ j = p.mb ∨ p.v.ownBlock = some j
def RAt (w : World) (lo : Nat) (p : RP) (k : Nat) (m : Int → Option Int) (l : List Wt) : Prop :=
  lo ≤ p.mb ∧ p.mb < p.b ∧ w.heap[p.b]? = some (.cells #[p.v, .map (some p.mb)] 69 (0, 0)) ∧ (∃ D, w.ownsMap Try.prog 3 (plainElem Try.prog 3) p.mb k D ∧ MR D m) ∧ Win w (p.b + 1) 76 3 p.v l.length (wcs l) ∧ ∀ j, p.v.ownBlock = some j → p.b + 1 ≤ j ∧ j < w.heap.size
theorem RAt.kept {w w' : World} {lo : Nat} {p : RP} {k : Nat} {m : Int → Option Int} {l : List Wt} {S : Nat → Prop} (h : RAt w lo p k m l) (hk : Kept S w w') (hs : ∀ j, p.own j → ¬ S j) : RAt w' lo p k m l := by
  obtain ⟨h1, h2, h3, ⟨D, h4, h5⟩, h6, h7⟩ := h
  refine ⟨h1, h2, (hk.block _ (Array.getElem?_eq_some_iff.1 h3).1 (hs _ (.inl rfl))).trans h3, ⟨D, ?_, h5⟩, h6.blocks hk fun j hj => hs j (.inr (.inr hj)), fun j hj => ⟨(h7 j hj).1, Nat.lt_of_lt_of_le (h7 j hj).2 hk.size⟩⟩
  obtain ⟨es, cl, g1, g2, g3, g4⟩ := h4
  exact ⟨es, cl, (hk.block _ (Array.getElem?_eq_some_iff.1 g1).1 (hs _ (.inr (.inl rfl)))).trans g1, g2, g3, g4⟩
theorem RAt.own_ge {w : World} {lo : Nat} {p : RP} {k : Nat} {m : Int → Option Int} {l : List Wt} (h : RAt w lo p k m l) : ∀ j, p.own j → lo ≤ j := by
  obtain ⟨h1, h2, h3, h4, h6, h7⟩ := h
  rintro j (rfl | rfl | hj)
  · omega
  · exact h1
  · have := (h7 j hj).1; omega
theorem RAt.own_lt {w : World} {lo : Nat} {p : RP} {k : Nat} {m : Int → Option Int} {l : List Wt} (h : RAt w lo p k m l) : ∀ j, p.own j → j < w.heap.size := by
  obtain ⟨h1, h2, h3, h4, h6, h7⟩ := h
  have := (Array.getElem?_eq_some_iff.1 h3).1
  rintro j (rfl | rfl | hj)
  · exact this
  · omega
  · exact (h7 j hj).2
/-- What an act on reads leaves. -/
def RActed (w : World) (lo : Nat) (p : RP) (k : Nat) (m : Int → Option Int) (l : List Wt) (w' : World) : Prop :=
  ∃ q : RP, q.b = p.b ∧ q.mb = p.mb ∧ RAt w' lo q k m l ∧ (∀ j, q.own j → p.own j ∨ w.heap.size ≤ j) ∧ Kept p.own w w'
theorem RAt.more {w : World} {lo : Nat} {p : RP} {k : Nat} {m : Int → Option Int} {l : List Wt} (h : RAt w lo p k m l) : RAt w lo p (k + 1) m l :=
  ⟨h.1, h.2.1, h.2.2.1, h.2.2.2.1.imp fun D hd => ⟨owns_more hd.1, hd.2⟩, h.2.2.2.2⟩
theorem rnew_at (w : World) : Calls Try.prog 13 #[] w fun e w' => ∃ p : RP, p.b = w.heap.size + 1 ∧ e = .returned (.pointer (some ⟨p.b, 0, none⟩)) ∧ RAt w' w.heap.size p 0 (fun _ => none) [] ∧ Below w.heap.size w w' := by
  refine (newreads_any w).mono ?_
  rintro e w' ⟨rfl, o, rfl, hm⟩
  refine ⟨⟨w.heap.size + 1, w.heap.size, .slice none 0 0⟩, rfl, rfl, ⟨Nat.le_refl _, Nat.lt_succ_self _, ?_, ⟨_, hm.alloc _, MR.empty⟩, Win.nil _ _ _ _, fun j hj => by simp [Value.ownBlock] at hj⟩, ?_⟩
  · have : (w.alloc o).heap.size = w.heap.size + 1 := by simp
    rw [← this]; exact heap_alloc_new _ _
  · exact ((Below.refl _ w).alloc (Nat.le_refl _) _).alloc (by simp) _
theorem said_at (p : RP) (lo k : Nat) (m : Int → Option Int) (l : List Wt) (f r : Int) (w : World) (h : RAt w lo p k m l) (hk : k < 100000) (hf : (Lit.int .i64 f).wf = true) (hr : (Lit.int .i64 r).wf = true) :
    Calls Try.prog 15 #[.pointer (some ⟨p.b, 0, none⟩), .int .i64 f, .int .i64 r] w fun e w' => e = .returned (.tuple #[]) ∧ RActed w lo p (k + 1) (hear m f r) l w' := by
  obtain ⟨h1, h2, h3, ⟨D, h4, h5⟩, h6, h7⟩ := h
  refine (rsaid_any p.b p.mb k D m f r w (by simp [World.cell?, h3]) h4 h5 hk hf hr).mono ?_
  rintro e w' ⟨rfl, D', hown, hm', ht⟩
  have hg := ht.grown
  have hK : Kept p.own w w' := (Kept.refl _ w).grown hg (fun r e => .inl (.inr (.inl (by cases e; rfl))))
  have hK2 : Kept (fun j => j = p.mb) w w' := (Kept.refl _ w).grown hg (fun r e => .inl (by cases e; rfl))
  refine ⟨rfl, p, rfl, rfl, ⟨h1, h2, ?_, ⟨D', hown, hm'⟩, h6.blocks hK2 fun j hj e => by have := (h7 j hj).1; omega, fun j hj => ⟨(h7 j hj).1, Nat.lt_of_lt_of_le (h7 j hj).2 hK.size⟩⟩, fun j hj => .inl hj, hK⟩
  exact (hK2.block _ (Array.getElem?_eq_some_iff.1 h3).1 (by omega)).trans h3
end Go.Proofs.Ytbjhpifllgoffaa
