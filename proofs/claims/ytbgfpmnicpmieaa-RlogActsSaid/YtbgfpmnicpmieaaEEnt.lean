/- Entries, whole: may they be. -/
import Derived.Test.YtbgfpmnicpmieaaEConf
namespace Go.Proofs.Ytbgfpmnicpmieaa
open Go Go.RowKit Go.Shelf Go.Sort
set_option linter.unusedVariables false
set_option linter.unusedSimpArgs false
set_option maxRecDepth 100000
set_option maxHeartbeats 1000000
/-- An entry: its numbers and texts, where its members' lists lie, and what they read as. -/
structure Ent where
  i : Int
  t : Int
  k : Int
  ck : Int
  cs : Int
  cq : Int
  a : ByteArray
  b : ByteArray
  c : ByteArray
  d : ByteArray
  l : Int
  va : Option Addr
  vn : Nat
  vc : Nat
  la : Option Addr
  ln : Nat
  lc : Nat
  V : List Int
  L : List Int
deriving Inhabited
abbrev Ent.cs' (e : Ent) : List Value := [.int .i64 e.i, .int .i64 e.t, .int .i64 e.k, .int .i64 e.ck, .int .i64 e.cs, .int .i64 e.cq, .string e.a, .string e.b, .string e.c, .string e.d, .int .i64 e.l, .slice e.va e.vn e.vc, .slice e.la e.ln e.lc]
abbrev Ent.v (e : Ent) : Value := .agg #[.int .i64 e.i, .int .i64 e.t, .int .i64 e.k, .int .i64 e.ck, .int .i64 e.cs, .int .i64 e.cq, .string e.a, .string e.b, .string e.c, .string e.d, .int .i64 e.l, .slice e.va e.vn e.vc, .slice e.la e.ln e.lc]
/-- What an entry's members read as, and how large its numbers are. -/
structure EK (w : World) (e : Ent) : Prop where
  v : Rd w e.va e.vn e.V
  l : Rd w e.la e.ln e.L
  vm : e.vn ≤ 281474976710656
  lm : e.ln ≤ 281474976710656
  i1 : -9223372036854775808 ≤ e.i
  i2 : e.i ≤ 9223372036854775807
  t1 : -9223372036854775808 ≤ e.t
  t2 : e.t ≤ 9223372036854775807
  sm : e.a.size + e.b.size + e.c.size + e.d.size ≤ 1125899906842624
theorem EK.keep {w w' : World} {e : Ent} {m : Nat} (h : EK w e) (hm : w.heap.size ≤ m) (hb : Below m w w') : EK w' e :=
  ⟨h.v.keep hm hb, h.l.keep hm hb, h.vm, h.lm, h.i1, h.i2, h.t1, h.t2, h.sm⟩
def bareB (e : Ent) : Bool := cmdB e.ck e.cs e.cq e.a e.b e.c e.d e.l 0 0 0 eB eB eB eB 0
def noneB (e : Ent) : Bool := ((e.V.length + e.L.length : Nat) : Int) == 0
def kindB (e : Ent) : Bool :=
  if e.k = 1 then bareB e && noneB e
  else if e.k = 2 then noneB e && goodC e.ck e.cs e.cq e.a e.b e.c e.d e.l
  else if e.k = 3 then bareB e && goodB e.V e.L
  else false
def goodE (e : Ent) : Bool := if e.i < 1 then false else if e.t < 1 then false else kindB e
theorem nope_any (a : Option Addr) (n c : Nat) (b : Option Addr) (m d : Nat) (w : World) (hn : n ≤ 281474976710656) (hm : m ≤ 281474976710656) : Calls Try.prog 67 #[.agg #[.slice a n c, .slice b m d]] w fun e w' => e = .returned (.bool (((n + m : Nat) : Int) == 0)) ∧ Below w.heap.size w w' := by
  go_enter Try.func67, Try.ntmps67
  go_wp2_with fail
  go_ret
  exact ⟨ret_bool (by congr 1), (Below.refl _ w).alloc (Nat.le_refl _) _⟩
end Go.Proofs.Ytbgfpmnicpmieaa
