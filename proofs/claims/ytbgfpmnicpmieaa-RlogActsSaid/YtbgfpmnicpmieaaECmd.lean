/- Commands: may they be. -/
import Derived.Test.YtbgfpmnicpmieaaRTerm
import Derived.Laws.StructEq
import Derived.Outline
import Derived.Laws.EntriesVeiled
namespace Go.Proofs.Ytbgfpmnicpmieaa
open Go Go.RowKit Go.Shelf Go.Sort
set_option linter.unusedVariables false
set_option linter.unusedSimpArgs false
set_option maxRecDepth 100000
set_option maxHeartbeats 1000000
abbrev eB : ByteArray := ⟨#[]⟩
abbrev cmdV (k s q : Int) (a b c d : ByteArray) (l : Int) : Value := .agg #[.int .i64 k, .int .i64 s, .int .i64 q, .string a, .string b, .string c, .string d, .int .i64 l]
def cmdB (k s q : Int) (a b c d : ByteArray) (l : Int) (k' s' q' : Int) (a' b' c' d' : ByteArray) (l' : Int) : Bool :=
  k == k' && (s == s' && (q == q' && (a.toList == a'.toList && (b.toList == b'.toList && (c.toList == c'.toList && (d.toList == d'.toList && l == l'))))))
theorem comEq (k s q : Int) (a b c d : ByteArray) (l : Int) (k' s' q' : Int) (a' b' c' d' : ByteArray) (l' : Int) (w : World) :
    (binOp .eql 32 (cmdV k s q a b c d l) (cmdV k' s' q' a' b' c' d' l')).run Try.prog w = .ok (.bool (cmdB k s q a b c d l k' s' q' a' b' c' d' l')) w := by
  rw [run_eql_struct]
  have h : (Op.equalIn 10000 32 (cmdV k s q a b c d l) (cmdV k' s' q' a' b' c' d' l')).run Try.prog w = .ok (cmdB k s q a b c d l k' s' q' a' b' c' d' l') w := by
    simp only [cmdB]
    simp [go_sem]
    repeat' split
    all_goals simp_all
  rw [h]; rfl
theorem key_any (a : ByteArray) (w : World) : Calls Try.prog 81 #[.string a] w fun e w' => e = .returned (.bool (!a.toList.isEmpty && decide ((a.size : Int) ≤ 64))) ∧ w = w' := by
  by_cases h : a.toList = []
  · have h1 : (!a.toList.isEmpty) = false := by simp [h]
    have h2 : a.toList.isEmpty = true := by simp [h]
    clear h
    go_enter Try.func81, Try.ntmps81
    go_wp2_with fail
    go_ret
    exact ⟨ret_bool (by rw [h1]; rfl), rfl⟩
  · have h1 : (!a.toList.isEmpty) = true := by simp [h]
    have h2 : a.toList.isEmpty = false := by simp [h]
    clear h
    go_enter Try.func81, Try.ntmps81
    go_wp2_with fail
    go_ret
    exact ⟨ret_bool (by rw [h1]; rfl), rfl⟩
theorem value_any (a : ByteArray) (w : World) : Calls Try.prog 83 #[.string a] w fun e w' => e = .returned (.bool (decide ((a.size : Int) ≤ 256))) ∧ w = w' := by
  go_enter Try.func83, Try.ntmps83
  go_wp2_with fail
  go_ret
  exact ⟨rfl, rfl⟩
/-- A command in a block. -/
def CM (w : World) (B : Nat) (k s q : Int) (a b c d : ByteArray) (l : Int) : Prop := w.heap[B]? = some (.cells #[.int .i64 k, .int .i64 s, .int .i64 q, .string a, .string b, .string c, .string d, .int .i64 l] 32 (0, 0))
def FM (w : World) (F B : Nat) : Prop := w.heap[F]? = some (.cells #[.func (.func 80) #[] #[.pointer (some ⟨B, 0, none⟩)]] 26 (0, 0))
theorem CM.keep {w w' B k s q a b c d l} {m : Nat} (h : CM w B k s q a b c d l) (hm : w.heap.size ≤ m) (hb : Below m w w') : CM w' B k s q a b c d l :=
  (hb.block B (Nat.lt_of_lt_of_le ((Array.getElem?_eq_some_iff.1 h).1) hm)).trans h
theorem FM.keep {w w' F B} {m : Nat} (h : FM w F B) (hm : w.heap.size ≤ m) (hb : Below m w w') : FM w' F B :=
  (hb.block F (Nat.lt_of_lt_of_le ((Array.getElem?_eq_some_iff.1 h).1) hm)).trans h
theorem four (w : World) (o1 o2 o3 o4 : Obj) : ((((w.alloc o1).alloc o2).alloc o3).alloc o4).heap[w.heap.size]? = some o1 ∧ ((((w.alloc o1).alloc o2).alloc o3).alloc o4).heap[w.heap.size + 1 + 1 + 1]? = some o4 ∧ Below w.heap.size w ((((w.alloc o1).alloc o2).alloc o3).alloc o4) := by
  have b1 : Below w.heap.size w (w.alloc o1) := (Below.refl _ w).alloc (Nat.le_refl _) _
  have s1 : (w.alloc o1).heap.size = w.heap.size + 1 := by simp
  have s2 : ((w.alloc o1).alloc o2).heap.size = w.heap.size + 1 + 1 := by simp
  have s3 : (((w.alloc o1).alloc o2).alloc o3).heap.size = w.heap.size + 1 + 1 + 1 := by simp
  have b4 : Below (w.alloc o1).heap.size (w.alloc o1) ((((w.alloc o1).alloc o2).alloc o3).alloc o4) := (((Below.refl _ _).alloc (Nat.le_refl _) _).alloc (by rw [s1, s2]; omega) _).alloc (by rw [s1, s3]; omega) _
  refine ⟨(b4.block _ (by rw [s1]; omega)).trans (heap_alloc_new w o1), ?_, b1.trans (b4.mono (by rw [s1]; omega))⟩
  have := heap_alloc_new (((w.alloc o1).alloc o2).alloc o3) o4
  rwa [s3] at this
def FitsP (w : World) (f : Nat) (k s q : Int) (a b c d : ByteArray) (l : Int) (z : Value) (caps : Nat → Nat → Array Value) (e : Ending) (w' : World) : Prop :=
  ∃ B F, e = .returned (.tuple #[z, .func (.func f) #[] (caps B F)]) ∧ CM w' B k s q a b c d l ∧ FM w' F B ∧ Below w.heap.size w w'
theorem fits_done {w w' : World} {f : Nat} {k s q : Int} {a b c d : ByteArray} {l : Int} {z : Value} {caps : Nat → Nat → Array Value} {o2 o3 : Obj}
    (h : w' = ((((w.alloc (.cells #[.int .i64 k, .int .i64 s, .int .i64 q, .string a, .string b, .string c, .string d, .int .i64 l] 32)).alloc o2).alloc o3).alloc (.cells #[.func (.func 80) #[] #[.pointer (some ⟨w.heap.size, 0, none⟩)]] 26))
      ∨ w' = World.drew ((((w.alloc (.cells #[.int .i64 k, .int .i64 s, .int .i64 q, .string a, .string b, .string c, .string d, .int .i64 l] 32)).alloc o2).alloc o3).alloc (.cells #[.func (.func 80) #[] #[.pointer (some ⟨w.heap.size, 0, none⟩)]] 26))) :
    FitsP w f k s q a b c d l z caps (.returned (.tuple #[z, .func (.func f) #[] (caps w.heap.size (w.heap.size + 1 + 1 + 1))])) w' := by
  obtain ⟨h1, h2, h3⟩ := four w (.cells #[.int .i64 k, .int .i64 s, .int .i64 q, .string a, .string b, .string c, .string d, .int .i64 l] 32) o2 o3 (.cells #[.func (.func 80) #[] #[.pointer (some ⟨w.heap.size, 0, none⟩)]] 26)
  rcases h with rfl | rfl
  · exact ⟨_, _, rfl, h1, h2, h3⟩
  · exact ⟨_, _, rfl, h1, h2, h3.drew⟩
theorem fits_put (s q : Int) (a b c d : ByteArray) (l : Int) (w : World) : Calls Try.prog 72 #[cmdV 3 s q a b c d l] w (FitsP w 82 3 s q a b c d l (cmdV 3 s q a eB c eB 0) (fun B F => #[.pointer (some ⟨F, 0, none⟩), .pointer (some ⟨B, 0, none⟩)])) := by
  go_enter Try.func72, Try.ntmps72
  go_wp2_with fail
  refine bodyPost_ret (v := .tuple #[cmdV 3 s q a eB c eB 0, .func (.func 82) #[] #[.pointer (some ⟨w.heap.size + 1 + 1 + 1, 0, none⟩), .pointer (some ⟨w.heap.size, 0, none⟩)]]) (by simp [results, Try.results72, go_sem]) rfl ?_
  exact fits_done (.inl rfl)
theorem fits_get (s q : Int) (a b c d : ByteArray) (l : Int) (w : World) : Calls Try.prog 72 #[cmdV 4 s q a b c d l] w (FitsP w 80 4 s q a b c d l (cmdV 4 s q a eB eB eB 0) (fun B F => #[.pointer (some ⟨B, 0, none⟩)])) := by
  go_enter Try.func72, Try.ntmps72
  go_wp2_with fail
  go_region
  all_goals (
    go_wp2_with fail
    refine bodyPost_ret (v := .tuple #[cmdV 4 s q a eB eB eB 0, .func (.func 80) #[] #[.pointer (some ⟨w.heap.size, 0, none⟩)]]) (by simp [results, Try.results72, go_sem]) rfl ?_
    exact fits_done (by first | exact .inl rfl | exact .inr rfl))
theorem fits_del (s q : Int) (a b c d : ByteArray) (l : Int) (w : World) : Calls Try.prog 72 #[cmdV 5 s q a b c d l] w (FitsP w 80 5 s q a b c d l (cmdV 5 s q a eB eB eB 0) (fun B F => #[.pointer (some ⟨B, 0, none⟩)])) := by
  go_enter Try.func72, Try.ntmps72
  go_wp2_with fail
  go_region
  all_goals (
    go_wp2_with fail
    refine bodyPost_ret (v := .tuple #[cmdV 5 s q a eB eB eB 0, .func (.func 80) #[] #[.pointer (some ⟨w.heap.size, 0, none⟩)]]) (by simp [results, Try.results72, go_sem]) rfl ?_
    exact fits_done (by first | exact .inl rfl | exact .inr rfl))
theorem fits_cas (s q : Int) (a b c d : ByteArray) (l : Int) (w : World) : Calls Try.prog 72 #[cmdV 6 s q a b c d l] w (FitsP w 84 6 s q a b c d l (cmdV 6 s q a b c eB 0) (fun B F => #[.pointer (some ⟨F, 0, none⟩), .pointer (some ⟨B, 0, none⟩)])) := by
  go_enter Try.func72, Try.ntmps72
  go_wp2_with fail
  go_region
  all_goals (
    go_wp2_with fail
    refine bodyPost_ret (v := .tuple #[cmdV 6 s q a b c eB 0, .func (.func 84) #[] #[.pointer (some ⟨w.heap.size + 1 + 1 + 1, 0, none⟩), .pointer (some ⟨w.heap.size, 0, none⟩)]]) (by simp [results, Try.results72, go_sem]) rfl ?_
    exact fits_done (by first | exact .inl rfl | exact .inr rfl))
theorem fits_scan (s q : Int) (a b c d : ByteArray) (l : Int) (w : World) : Calls Try.prog 72 #[cmdV 7 s q a b c d l] w (FitsP w 85 7 s q a b c d l (cmdV 7 s q a eB eB d l) (fun B F => #[.pointer (some ⟨B, 0, none⟩)])) := by
  go_enter Try.func72, Try.ntmps72
  go_wp2_with fail
  go_region
  all_goals (
    go_wp2_with fail
    refine bodyPost_ret (v := .tuple #[cmdV 7 s q a eB eB d l, .func (.func 85) #[] #[.pointer (some ⟨w.heap.size, 0, none⟩)]]) (by simp [results, Try.results72, go_sem]) rfl ?_
    exact fits_done (by first | exact .inl rfl | exact .inr rfl))
theorem fits_other (k s q : Int) (a b c d : ByteArray) (l : Int) (w : World) (h3 : (k == 3) = false) (h4 : (k == 4) = false) (h5 : (k == 5) = false) (h6 : (k == 6) = false) (h7 : (k == 7) = false) : Calls Try.prog 72 #[cmdV k s q a b c d l] w (FitsP w 86 k s q a b c d l (cmdV k s q a eB eB eB 0) (fun B F => #[])) := by
  go_enter Try.func72, Try.ntmps72
  go_wp2_with fail
  refine bodyPost_ret (v := .tuple #[cmdV k s q a eB eB eB 0, .func (.func 86) #[] #[]]) (by simp [results, Try.results72, go_sem]) rfl ?_
  exact fits_done (.inl rfl)
end Go.Proofs.Ytbgfpmnicpmieaa
