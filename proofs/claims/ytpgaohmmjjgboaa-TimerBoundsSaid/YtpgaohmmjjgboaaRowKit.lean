/-
  What the rows of these laws ask beside the walks: arguments that read behind the call as they read before; a script of steps, read.
-/
import Derived.Test.YtpgaohmmjjgboaaPlays
import Derived.ProofKit
import Derived.OpenShut
import Derived.Carry
import Derived.Deep.Slices
import Derived.Lib.SmallJoins
namespace Go.Proofs.Ytpgaohmmjjgboaa
open Go.ChangeShapes Go.WideShapes Go.ChangeAt Go.RowKit Go.Deep Go.Joins

theorem own : ownKnob Try.prog.godebug = none := by kernel_rfl
theorem laidOut : laidOutB Try.prog = true := by kernel_rfl
theorem below_of {w w' : World} (h : w.grownBy w' none) : Below w.heap.size w w' := ⟨h.os, h.tape, h.output, h.size, fun k hk => h.block k hk (by simp)⟩
theorem lt_of_wf {b : Nat} (h : (Lit.float .f64 b).wf = true) : b < 2 ^ 64 := by
  simpa [Lit.wf] using h

section
variable {H : Type} {enc : TypeId × Value → H} {P : Program} {W W' : World}
/-- what was read of all arguments is read behind the call -/
theorem all_below (hl : laidOutB P = true) (hb : Below W.heap.size W W') : ∀ {ts : List TypeId} {vs : List Value} {ds : List (DataW H)} {ps : List MemPlace},
    (∀ t, t ∈ ts → P.readableRec t = true ∧ t < P.types.size) → DataW.TrodAll enc P W 0 (fun _ => true) true ts vs ds ps → (∀ x, x ∈ ps → x.block < W.heap.size) →
    DataW.TrodAll enc P W' 0 (fun b => decide (b < W.heap.size)) true ts vs ds ps
  | [], _, _, _, _, h, _ => by
    obtain ⟨rfl, rfl, rfl⟩ := trodAll_nil h
    exact trodAll_mk0
  | t :: ts, _, _, _, ht, h, hlt => by
    obtain ⟨v, vs, d, ds, p, q, rfl, rfl, rfl, h1, h2⟩ := trodAll_cons h
    refine trodAll_cons_mk (Below.trod hl (ht t (by simp)).1 (ht t (by simp)).2 h1 hb (fun x hx => hlt x (by simp [hx]))) ?_
    exact all_below hl hb (fun u hu => ht u (by simp [hu])) h2 (fun x hx => hlt x (by simp [hx]))
end

section
variable {H : Type} {enc : TypeId × Value → H} {w : World} {base : Nat} {spare : Nat → Bool} {held : Bool}
theorem cells41 : Try.prog.cellsOf 41 = 2 := by kernel_rfl
theorem cells3 : Try.prog.cellsOf 3 = 1 := by kernel_rfl
theorem cells22 : Try.prog.cellsOf 22 = 1 := by kernel_rfl

theorem add_row (b off n : Nat) : (⟨b, off, none⟩ : Addr).add n = ⟨b, off + n, none⟩ := by
  unfold Addr.add
  by_cases h : n = 0
  · subst h; simp
  · simp [h]

/-- A SCRIPT, READ: nothing, or so many steps in memory. -/
theorem open_script {a : Option Addr} {len cap : Nat} {d : DataW H} {ps : List MemPlace} (h : DataW.Trod enc Try.prog w base spare held 25 (.slice a len cap) d ps) :
    len = 0 ∨ ∃ sb so dos ns, a = some ⟨sb, so, none⟩ ∧ Script w sb so len dos ns := by
  obtain ⟨fuel, hf⟩ := h
  rcases open_slice (t := 25) (e := 41) Try.underlying25 hf with ⟨hcs, _⟩ | ⟨ad, len', cap', m, n, D, Pl, hcs, _, hl, _, hm, _, hx⟩
  · left
    have : Value.slice a len cap = .slice none 0 0 := by simpa [Value.cells] using hcs
    injection this
  · have he : Value.slice a len cap = .slice (some ad) len' cap' := by simpa [Value.cells] using hcs
    injection he with h1 h2 h3
    subst h1; subst h2; subst h3
    rcases Nat.eq_zero_or_pos len with h0 | h0
    · exact .inl h0
    right
    have hstep : ∀ i, i < len → ∃ x y : Int, w.cell? (ad.add (i * 2)) = some (.int .i64 x) ∧ w.cell? (ad.add (i * 2 + 1)) = some (.int .u64 y) ∧ (Lit.int .u64 y).wf = true := by
      intro i hi
      obtain ⟨cs, hc, ht⟩ := hx i (by rw [hm]; split <;> omega)
      rw [cells41] at hc
      obtain ⟨_, hcl, hat⟩ := World.cells?_some hc
      obtain ⟨y0, y1, k, _, _, t0, t1⟩ := trod_struct2 Try.underlying41 ht
      match cs, hcl with
      | [u, v], _ =>
        have t0' : DataW.trod enc Try.prog w base spare held k 3 [u] = some y0 := by
          have := t0
          rw [show (Try.prog.cellsOf 3) = 1 from cells3] at this
          exact this
        have t1' : DataW.trod enc Try.prog w base spare held k 22 [v] = some y1 := by
          have := t1
          rw [show (Try.prog.cellsOf 22) = 1 from cells22] at this
          exact this
        obtain ⟨x, hx1, _, _⟩ := DataW.trod_int Try.underlying3 t0'
        obtain ⟨y, hy1, _, hwf⟩ := DataW.trod_int Try.underlying22 t1'
        have ex : u = .int .i64 x := by simpa using hx1
        have ey : v = .int .u64 y := by simpa using hy1
        subst ex; subst ey
        have a0 := hat 0 (by omega)
        have a1 := hat 1 (by omega)
        rw [Go.Deep.add_add] at a0 a1
        exact ⟨x, y, by simpa using a0, by simpa using a1, hwf⟩
    obtain ⟨x0, _, hc0, _, _⟩ := hstep 0 h0
    obtain ⟨b, off, sp⟩ := ad
    have hsp : sp = none := by
      cases sp with
      | none => rfl
      | some z => exfalso; simp [World.cell?, Addr.add] at hc0; split at hc0 <;> simp_all
    subst hsp
    have hb := World.block_lt_of_cell? _ _ hc0
    obtain ⟨f, hf'⟩ := Go.Deep.choose_lt (α := Int × Nat) (n := len) (p := fun i q => w.cell? ⟨b, off + i * 2, none⟩ = some (.int .i64 q.1) ∧ w.cell? ⟨b, off + i * 2 + 1, none⟩ = some (.int .u64 (q.2 : Int))) (fun i hi => by
      obtain ⟨x, y, h1, h2, hwf⟩ := hstep i hi
      have hy := bounds_u64 hwf
      obtain ⟨z, rfl⟩ := Int.eq_ofNat_of_zero_le hy.1
      rw [add_row] at h1 h2
      exact ⟨(x, z), h1, by rw [Nat.add_assoc]; exact h2⟩)
    exact ⟨b, off, fun i => (f i).1, fun i => (f i).2, rfl, hb, hf'⟩
end

end Go.Proofs.Ytpgaohmmjjgboaa
