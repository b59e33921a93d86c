/-
  The walks of the program's queue: the small methods.
-/
import Derived.Test.YthcjmghdmcapeaaHeld
import Derived.Test.YthcjmghdmcapeaaRows
import Derived.WalkKit
import Derived.WalkLawsBesides
import Derived.WalkSpells
import Derived.Lib.Hide
import Derived.Outline
import Derived.Deep.QuietTactic
import Derived.BigQuiet
import Derived.StillTailTactics
import Derived.Laws.AppendOwn
import Derived.Laws.OwnMore
import Derived.Maps.OwnSet
import Derived.Maps.OwnOps
namespace Go.Proofs.Ythcjmghdmcapeaa
open Go.RowKit Go.Maps

section
variable {w : World} {b : Nat} {xs : Array Value} {t : TypeId}
theorem cell_of (h : w.heap[b]? = some (.cells xs t (0, 0))) (j : Nat) (x : Value) (hx : xs[j]? = some x) : w.cell? ⟨b, j, none⟩ = some x := by
  simp [World.cell?, h, hx]
theorem frozen_of (h : w.heap[b]? = some (.cells xs t (0, 0))) (j : Nat) : w.frozen? ⟨b, j, none⟩ = false := by
  simp [World.frozen?, h]
theorem lt_of {o : Obj} (h : w.heap[b]? = some o) : b < w.heap.size := by
  rcases Nat.lt_or_ge b w.heap.size with h' | h'
  · exact h'
  · rw [Array.getElem?_eq_none h'] at h; cases h
theorem heap_set (h : w.heap[b]? = some (.cells xs t (0, 0))) (j : Nat) (v : Value) : (w.setCell ⟨b, j, none⟩ v).heap[b]? = some (.cells (xs.setIfInBounds j v) t (0, 0)) := by
  simp [World.setCell, Array.getElem?_modify, h]
end

/- FRAMES: all but some blocks are as they were -/
/-- w' is w but for the blocks of S, and new ones -/
structure Fr (S : Nat → Prop) (w w' : World) : Prop where
  os : w'.os = w.os
  tape : w'.tape = w.tape
  output : w'.output = w.output
  size : w.heap.size ≤ w'.heap.size
  block : ∀ i, i < w.heap.size → ¬ S i → w'.heap[i]? = w.heap[i]?

section
variable {S : Nat → Prop} {a w c : World}
theorem Fr.refl : Fr S w w := ⟨rfl, rfl, rfl, Nat.le_refl _, fun _ _ _ => rfl⟩
theorem Fr.trans (h : Fr S a w) (k : Fr S w c) : Fr S a c :=
  ⟨k.os.trans h.os, k.tape.trans h.tape, k.output.trans h.output, Nat.le_trans h.size k.size, fun i hi hs => (k.block i (Nat.lt_of_lt_of_le hi h.size) hs).trans (h.block i hi hs)⟩
/-- a step whose blocks are S's, or new -/
theorem Fr.step {S' : Nat → Prop} (h : Fr S a w) (k : Fr S' w c) (hs : ∀ i, S' i → S i ∨ a.heap.size ≤ i) : Fr S a c :=
  ⟨k.os.trans h.os, k.tape.trans h.tape, k.output.trans h.output, Nat.le_trans h.size k.size, fun i hi hn => (k.block i (Nat.lt_of_lt_of_le hi h.size) (fun hS => by
    rcases hs i hS with h1 | h1
    · exact hn h1
    · omega)).trans (h.block i hi hn)⟩
theorem Fr.drew (h : Fr S a w) : Fr S a w.drew := ⟨h.os, h.tape, h.output, h.size, h.block⟩
theorem Fr.drewN (h : Fr S a w) (n : Nat) : Fr S a (w.drewN n) := ⟨h.os, h.tape, h.output, h.size, h.block⟩
theorem Fr.alloc (h : Fr S a w) (o : Obj) : Fr S a (w.alloc o) :=
  ⟨h.os, h.tape, h.output, Nat.le_trans h.size (by simp), fun i hi hn => (Below.heap_alloc w o i (Nat.lt_of_lt_of_le hi h.size)).trans (h.block i hi hn)⟩
theorem Fr.setCell (h : Fr S a w) {p : Addr} (hp : S p.block ∨ a.heap.size ≤ p.block) (u : Value) : Fr S a (w.setCell p u) :=
  ⟨h.os, h.tape, h.output, by simpa [World.setCell] using h.size, fun i hi hn => (Below.heap_setCell w p u i (by
    rintro rfl
    rcases hp with hp | hp
    · exact hn hp
    · omega)).trans (h.block i hi hn)⟩
theorem Fr.grown {row : Option Nat} (h : Fr S a w) (k : w.grownBy c row) (hr : ∀ j, row = some j → S j ∨ a.heap.size ≤ j) : Fr S a c :=
  ⟨k.os.trans h.os, k.tape.trans h.tape, k.output.trans h.output, Nat.le_trans h.size k.size, fun i hi hn => (k.block i (Nat.lt_of_lt_of_le hi h.size) (fun e => by
    rcases hr i e.symm with h1 | h1
    · exact hn h1
    · omega)).trans (h.block i hi hn)⟩
theorem Fr.keeps (h : Fr S a w) {b : Nat} {o : Obj} (hb : a.heap[b]? = some o) (hn : ¬ S b) : w.heap[b]? = some o := (h.block b (lt_of hb) hn).trans hb
end

theorem box_at (w : World) (o : Obj) : (w.alloc o).heap[w.heap.size]? = some o := by simp only [World.alloc, Array.getElem?_push, if_true]

/- WHAT THE QUEUE IS IN MEMORY -/
def bytesV (l : List UInt8) : List Value := l.map fun c => .int .u8 (c.toNat : Int)
/-- what is ready: a slice of no cell at all, or one that owns its array -/
def Rdy (w : World) (B : Nat) (v : Value) (l : List UInt8) : Prop :=
  (l = [] ∧ ∃ a, v = .slice a 0 0 ∧ ∀ ad, a = some ad → ad.block < w.heap.size) ∨ w.ownsRow B 5 1 v l.length (bytesV l)
/-- the blocks are apart -/
def Apart (B bq bm : Nat) (v : Value) : Prop := B ≤ bq ∧ B ≤ bm ∧ bq ≠ bm ∧ v.ownBlock ≠ some bq ∧ v.ownBlock ≠ some bm

/-- THE PROGRAM's QUEUE -/
structure FQ (w : World) (B bq bm : Nat) (rv : Value) (q : Q) (D : Dm) (en : Nat) : Prop where
  cells : w.heap[bq]? = some (.cells #[.int .u32 (q.next : Int), .int .i64 (q.size : Int), rv, .map (some bm), .bool q.e.isSome, .int .u32 (en : Int), .bool q.ended] 48 (0, 0))
  rdy : Rdy w B rv q.ready
  own : w.ownsMap Try.prog 22 (plainElem Try.prog 5) bm (Maps.size D) D
  is : MapIs D q
  endAt : ∀ x, q.e = some x → q.ended = false → en = (q.next + x) % M32
  en : en < M32
  apart : Apart B bq bm rv
  inv : Inv q

theorem law22 : Keyed Try.prog 22 := int_keyed Try.underlying22
theorem zero5 (w : World) : (zeroValue 5).run Try.prog w = .ok (.int .u8 0) w := by kernel_rfl

/-- is the one ahead of the other, both ways told -/
def lessV (a b : Int) : Bool := decide (1 ≤ (b - a) % 4294967296) && decide ((b - a) % 4294967296 ≤ 2147483647)

theorem i32_pos (x : Int) (h0 : 0 ≤ x) (h1 : x < 4294967296) : decide (0 < IntKind.i32.wrap x) = (decide (1 ≤ x) && decide (x ≤ 2147483647)) := by
  rw [IntKind.wrap_i32, ← Bool.decide_and, decide_eq_decide]
  omega

theorem less_any (a b : Int) (w : World) : Calls Try.prog 6 #[.int .u32 a, .int .u32 b] w fun e w' => e = .returned (.bool (lessV a b)) ∧ w = w' := by
  have h := i32_pos ((b - a) % 4294967296) (by omega) (by omega)
  have h' : lessV a b = decide (0 < wrap32 ((b - a) % 4294967296)) := by
    unfold lessV; rw [← h]; unfold wrap32; rw [IntKind.wrap_i32]
  rw [h']
  clear h h'
  go_enter Try.func6, Try.ntmps6
  go_wp2
  go_ret
  exact ⟨rfl, rfl⟩

theorem rless_any (a b : Int) (w : World) : Calls Try.prog 7 #[.int .u32 a, .int .u32 b] w fun e w' => e = .returned (.bool (lessV a b)) ∧ w = w' := by
  unfold lessV
  by_cases h1 : 1 ≤ (b - a) % 4294967296
  · have e1 : decide (1 ≤ (b - a) % 4294967296) = true := decide_eq_true h1
    rw [e1]
    go_enter Try.func7, Try.ntmps7
    go_wp2
    go_ret
    exact ⟨by simp, rfl⟩
  · have e1 : decide (1 ≤ (b - a) % 4294967296) = false := decide_eq_false h1
    rw [e1]
    go_enter Try.func7, Try.ntmps7
    go_wp2
    go_ret
    exact ⟨by simp, rfl⟩

theorem in_any (x f s : Int) (w : World) : Calls Try.prog 8 #[.int .u32 x, .int .u32 f, .int .u32 s] w fun e w' => e = .returned (.bool (decide ((x - f) % 4294967296 < s))) ∧ w = w' := by
  go_enter Try.func8, Try.ntmps8
  go_wp2
  go_ret
  exact ⟨rfl, rfl⟩

theorem rin_any (x f s : Int) (w : World) : Calls Try.prog 9 #[.int .u32 x, .int .u32 f, .int .u32 s] w fun e w' => e = .returned (.bool (decide ((x - f) % 4294967296 < s))) ∧ w = w' := by
  go_enter Try.func9, Try.ntmps9
  go_wp2
  go_ret
  exact ⟨rfl, rfl⟩

theorem may_any (n : Int) (w : World) : Calls Try.prog 11 #[.int .i64 n] w fun e w' => e = .returned (.bool (decide (1 ≤ n) && decide (n ≤ 65536))) ∧ w = w' := by
  by_cases h1 : 1 ≤ n
  · have e1 : decide (1 ≤ n) = true := decide_eq_true h1
    rw [e1]
    go_enter Try.func11, Try.ntmps11
    go_wp2
    go_ret
    exact ⟨by simp, rfl⟩
  · have e1 : decide (1 ≤ n) = false := decide_eq_false h1
    rw [e1]
    go_enter Try.func11, Try.ntmps11
    go_wp2
    go_ret
    exact ⟨by simp, rfl⟩

section
variable {w : World} {B bq bm : Nat} {rv : Value} {q : Q} {D : Dm} {en : Nat}
theorem next_any (h : FQ w B bq bm rv q D en) : Calls Try.prog 17 #[.pointer (some ⟨bq, 0, none⟩)] w fun e w' => e = .returned (.int .u32 (q.next : Int)) ∧ w = w' := by
  have c0 := cell_of h.cells 0 _ rfl
  go_enter Try.func17, Try.ntmps17
  go_wp2
  go_ret
  exact ⟨rfl, rfl⟩

theorem ended_any (h : FQ w B bq bm rv q D en) : Calls Try.prog 23 #[.pointer (some ⟨bq, 0, none⟩)] w fun e w' => e = .returned (.bool q.ended) ∧ w = w' := by
  have c6 := cell_of h.cells 6 _ rfl
  go_enter Try.func23, Try.ntmps23
  go_wp2
  go_ret
  exact ⟨rfl, rfl⟩

theorem held_any (h : FQ w B bq bm rv q D en) : Calls Try.prog 21 #[.pointer (some ⟨bq, 0, none⟩)] w fun e w' => e = .returned (.int .i64 (q.held : Int)) ∧ w = w' := by
  have c3 := cell_of h.cells 3 _ rfl
  have hown := h.own
  have hs := h.is.size
  rw [← hs]
  clear hs
  go_enter Try.func21, Try.ntmps21
  go_wp2_with (at_len; refine wpList_len_own _ rfl _ 46 rfl 22 5 Try.underlying46 _ bm _ _ rfl hown ?_)
  go_ret
  exact ⟨rfl, rfl⟩

/-- the value's length -/
theorem rdy_len {v : Value} {l : List UInt8} (h : Rdy w B v l) : ∃ a c, v = .slice a l.length c ∧ (c = 0 → l = []) := by
  rcases h with ⟨rfl, a, rfl, _⟩ | ⟨_, ⟨rfl, h0⟩ | ⟨g, cap, cur, rfl, _, _, h1, _⟩⟩
  · exact ⟨a, 0, rfl, fun _ => rfl⟩
  · exact ⟨none, 0, by rw [h0], fun _ => List.eq_nil_of_length_eq_zero h0⟩
  · exact ⟨_, cap, rfl, fun hc => List.eq_nil_of_length_eq_zero (by omega)⟩

/-- its block is in memory -/
theorem rdy_real {v : Value} {l : List UInt8} (h : Rdy w B v l) : ∀ r, v.ownBlock = some r → r < w.heap.size := by
  intro r hr
  rcases h with ⟨_, a, rfl, ha⟩ | ⟨_, ⟨rfl, _⟩ | ⟨g, cap, cur, rfl, _, hg, _⟩⟩
  · cases a with
    | none => cases hr
    | some ad => injection hr with hr; rw [← hr]; exact ha ad rfl
  · cases hr
  · injection hr with hr; rw [← hr]; exact lt_of hg

theorem ready_any (h : FQ w B bq bm rv q D en) : Calls Try.prog 20 #[.pointer (some ⟨bq, 0, none⟩)] w fun e w' => e = .returned (.int .i64 (q.ready.length : Int)) ∧ w = w' := by
  obtain ⟨a, c, hv, _⟩ := rdy_len h.rdy
  have c2 := cell_of h.cells 2 _ rfl
  rw [hv] at c2
  go_enter Try.func20, Try.ntmps20
  go_wp2
  go_ret
  exact ⟨rfl, rfl⟩

theorem window_any (h : FQ w B bq bm rv q D en) : Calls Try.prog 18 #[.pointer (some ⟨bq, 0, none⟩)] w fun e w' => e = .returned (.int .i64 (q.window : Int)) ∧ ∃ n, w' = w.drewN n := by
  obtain ⟨a, c, hv, _⟩ := rdy_len h.rdy
  have c1 := cell_of h.cells 1 _ rfl
  have c2 := cell_of h.cells 2 _ rfl
  have c6 := cell_of h.cells 6 _ rfl
  have hr := h.inv.ready
  have hs2 := h.inv.size2
  rw [hv] at c2
  unfold Q.window Q.win
  cases he : q.ended
  · rw [he] at c6
    have e : ((if false = true then 0 else q.size - q.ready.length : Nat) : Int) = (q.size : Int) - (q.ready.length : Int) := by simp; omega
    rw [e]
    clear e he
    go_enter Try.func18, Try.ntmps18
    go_wp2_with fail
    go_quiet (fail)
    go_wp2_with fail
    go_ret
    exact ⟨rfl, _, rfl⟩
  · rw [he] at c6
    go_enter Try.func18, Try.ntmps18
    go_wp2_with fail
    go_ret
    exact ⟨by simp, 0, rfl⟩
end

end Go.Proofs.Ythcjmghdmcapeaa
