/-
  FlowPlays: whatever the first number, the window and the script are, the law's Go text returns true: what is ready, held, next, the window and the end are the reference's behind each step. No condition.
-/
import Derived.Test.YthcjmghdmcapeaaLoop
import Derived.ProofKit
import Derived.OpenShut
import Derived.Carry
import Derived.Deep.Slices
import Derived.Lib.SmallJoins
namespace Go.Proofs.Ythcjmghdmcapeaa
open Go.ChangeShapes Go.WideShapes Go.ChangeAt Go.RowKit Go.Deep Go.Joins

theorem own : ownKnob Try.prog.godebug = none := by kernel_rfl
theorem laidOut : laidOutB Try.prog = true := by kernel_rfl
theorem below_of {w w' : World} (h : Fr (fun _ => False) w w') : Below w.heap.size w w' := ⟨h.os, h.tape, h.output, h.size, fun k hk => h.block k hk (fun e => e)⟩

section
variable {H : Type} {enc : TypeId × Value → H} {P : Program} {W W' : World}
/-- what was read of all arguments is read behind the call -/
theorem all_below (hl : laidOutB P = true) (hb : Below W.heap.size W W') : ∀ {ts : List TypeId} {vs : List Value} {ds : List (DataW H)} {ps : List MemPlace},
    (∀ t, t ∈ ts → P.readableRec t = true ∧ t < P.types.size) → DataW.TrodAll enc P W 0 (fun _ => true) true ts vs ds ps → (∀ x, x ∈ ps → x.block < W.heap.size) →
    DataW.TrodAll enc P W' 0 (fun b => decide (b < W.heap.size)) true ts vs ds ps
  | [], _, _, _, _, h, _ => by
    obtain ⟨rfl, rfl, rfl⟩ := trodAll_nil h
    exact trodAll_mk0
  | t :: ts, _, _, _, ht, h, hlt => by
    obtain ⟨v, vs, d, ds, p, q, rfl, rfl, rfl, h1, h2⟩ := trodAll_cons h
    refine trodAll_cons_mk (Below.trod hl (ht t (by simp)).1 (ht t (by simp)).2 h1 hb (fun x hx => hlt x (by simp [hx]))) ?_
    exact all_below hl hb (fun u hu => ht u (by simp [hu])) h2 (fun x hx => hlt x (by simp [hx]))

theorem trod_struct5 {w : World} {base : Nat} {spare : Nat → Bool} {held : Bool} {t : TypeId} {f0 f1 f2 f3 f4 : Field} {fuel : Nat} {cs : List Value} {x : DataW H × List MemPlace} (ht : P.underlying t = some (.struct #[f0, f1, f2, f3, f4])) (h : DataW.trod enc P w base spare held fuel t cs = some x) :
    ∃ y0 y1 y2 y3 y4 n, cs.length = P.cellsOf t ∧ DataW.trod enc P w base spare held n f0.type ((cs.drop f0.offset).take (P.cellsOf f0.type)) = some y0 ∧
      DataW.trod enc P w base spare held n f1.type ((cs.drop f1.offset).take (P.cellsOf f1.type)) = some y1 ∧ DataW.trod enc P w base spare held n f2.type ((cs.drop f2.offset).take (P.cellsOf f2.type)) = some y2 ∧
      DataW.trod enc P w base spare held n f3.type ((cs.drop f3.offset).take (P.cellsOf f3.type)) = some y3 ∧ DataW.trod enc P w base spare held n f4.type ((cs.drop f4.offset).take (P.cellsOf f4.type)) = some y4 := by
  obtain ⟨xs, n, _, rfl, hl, hlen, hf⟩ := DataW.trod_struct ht h
  match xs, hlen with
  | [y0, y1, y2, y3, y4], _ => exact ⟨y0, y1, y2, y3, y4, n, hl, by simpa using hf 0 f0 rfl, by simpa using hf 1 f1 rfl, by simpa using hf 2 f2 rfl, by simpa using hf 3 f3 rfl, by simpa using hf 4 f4 rfl⟩
end

section
variable {H : Type} {enc : TypeId × Value → H} {w : World} {base : Nat} {spare : Nat → Bool} {held : Bool}
theorem cells36 : Try.prog.cellsOf 36 = 5 := by kernel_rfl
theorem cells22 : Try.prog.cellsOf 22 = 1 := by kernel_rfl
theorem cells9 : Try.prog.cellsOf 9 = 1 := by kernel_rfl
theorem cells4 : Try.prog.cellsOf 4 = 1 := by kernel_rfl
theorem cells3 : Try.prog.cellsOf 3 = 1 := by kernel_rfl

theorem add_row (b off n : Nat) : (⟨b, off, none⟩ : Addr).add n = ⟨b, off + n, none⟩ := by
  unfold Addr.add
  by_cases h : n = 0
  · subst h; simp
  · simp [h]

theorem u32_nat {y : Int} (h : (Lit.int .u32 y).wf = true) : ∃ z : Nat, y = (z : Int) ∧ z < M32 := by
  simp [Lit.wf, IntKind.min, IntKind.max, IntKind.bits, IntKind.signed] at h
  unfold M32
  exact ⟨y.toNat, by omega, by omega⟩

instance : Inhabited StepV := ⟨⟨0, ⟨#[]⟩, false, false, 0⟩⟩

/-- A SCRIPT, READ: nothing, or so many steps in memory. -/
theorem open_script {a : Option Addr} {len cap : Nat} {d : DataW H} {ps : List MemPlace} (h : DataW.Trod enc Try.prog w base spare held 23 (.slice a len cap) d ps) :
    ∃ st, len = 0 ∨ ∃ sb so, a = some ⟨sb, so, none⟩ ∧ sb < w.heap.size ∧ ScriptAt w sb so len st := by
  obtain ⟨fuel, hf⟩ := h
  rcases open_slice (t := 23) (e := 36) Try.underlying23 hf with ⟨hcs, _⟩ | ⟨ad, len', cap', m, n, D, Pl, hcs, _, hl, _, hm, _, hx⟩
  · refine ⟨fun _ => ⟨0, ⟨#[]⟩, false, false, 0⟩, .inl ?_⟩
    have : Value.slice a len cap = .slice none 0 0 := by simpa [Value.cells] using hcs
    injection this
  · have he : Value.slice a len cap = .slice (some ad) len' cap' := by simpa [Value.cells] using hcs
    injection he with h1 h2 h3
    subst h1; subst h2; subst h3
    rcases Nat.eq_zero_or_pos len with h0 | h0
    · exact ⟨fun _ => ⟨0, ⟨#[]⟩, false, false, 0⟩, .inl h0⟩
    have hstep : ∀ i, i < len → ∃ s : StepV, s.seq < M32 ∧ w.cell? (ad.add (i * 5)) = some (.int .u32 (s.seq : Int)) ∧ w.cell? (ad.add (i * 5 + 1)) = some (.string s.data) ∧ w.cell? (ad.add (i * 5 + 2)) = some (.bool s.fin) ∧
        w.cell? (ad.add (i * 5 + 3)) = some (.bool s.reads) ∧ w.cell? (ad.add (i * 5 + 4)) = some (.int .i64 s.n) := by
      intro i hi
      obtain ⟨cs, hc, ht⟩ := hx i (by rw [hm]; split <;> omega)
      rw [cells36] at hc
      obtain ⟨_, hcl, hat⟩ := World.cells?_some hc
      obtain ⟨y0, y1, y2, y3, y4, k, _, t0, t1, t2, t3, t4⟩ := trod_struct5 Try.underlying36 ht
      match cs, hcl with
      | [v0, v1, v2, v3, v4], _ =>
        have t0' : DataW.trod enc Try.prog w base spare held k 22 [v0] = some y0 := by
          have := t0
          rw [show (Try.prog.cellsOf 22) = 1 from cells22] at this
          exact this
        have t1' : DataW.trod enc Try.prog w base spare held k 9 [v1] = some y1 := by
          have := t1
          rw [show (Try.prog.cellsOf 9) = 1 from cells9] at this
          exact this
        have t2' : DataW.trod enc Try.prog w base spare held k 4 [v2] = some y2 := by
          have := t2
          rw [show (Try.prog.cellsOf 4) = 1 from cells4] at this
          exact this
        have t3' : DataW.trod enc Try.prog w base spare held k 4 [v3] = some y3 := by
          have := t3
          rw [show (Try.prog.cellsOf 4) = 1 from cells4] at this
          exact this
        have t4' : DataW.trod enc Try.prog w base spare held k 3 [v4] = some y4 := by
          have := t4
          rw [show (Try.prog.cellsOf 3) = 1 from cells3] at this
          exact this
        obtain ⟨x0, e0, _, hwf⟩ := DataW.trod_int Try.underlying22 t0'
        obtain ⟨x1, e1, _⟩ := DataW.trod_string Try.underlying9 t1'
        obtain ⟨x2, e2, _⟩ := DataW.trod_bool Try.underlying4 t2'
        obtain ⟨x3, e3, _⟩ := DataW.trod_bool Try.underlying4 t3'
        obtain ⟨x4, e4, _⟩ := DataW.trod_int Try.underlying3 t4'
        obtain ⟨z, rfl, hz⟩ := u32_nat hwf
        have f0 : v0 = .int .u32 (z : Int) := by simpa using e0
        have f1 : v1 = .string x1 := by simpa using e1
        have f2 : v2 = .bool x2 := by simpa using e2
        have f3 : v3 = .bool x3 := by simpa using e3
        have f4 : v4 = .int .i64 x4 := by simpa using e4
        subst f0; subst f1; subst f2; subst f3; subst f4
        have a0 := hat 0 (by omega)
        have a1 := hat 1 (by omega)
        have a2 := hat 2 (by omega)
        have a3 := hat 3 (by omega)
        have a4 := hat 4 (by omega)
        rw [Go.Deep.add_add] at a0 a1 a2 a3 a4
        exact ⟨⟨z, x1, x2, x3, x4⟩, hz, by simpa using a0, by simpa using a1, by simpa using a2, by simpa using a3, by simpa using a4⟩
    obtain ⟨s0, _, hc0, _⟩ := hstep 0 h0
    obtain ⟨b, off, sp⟩ := ad
    have hsp : sp = none := by
      cases sp with
      | none => rfl
      | some z => exfalso; simp [World.cell?, Addr.add] at hc0; split at hc0 <;> simp_all
    subst hsp
    have hb := World.block_lt_of_cell? _ _ hc0
    obtain ⟨f, hf'⟩ := Go.Deep.choose_lt (α := StepV) (n := len) (p := fun k s => s.seq < M32 ∧ w.cell? ⟨b, off + k * 5, none⟩ = some (.int .u32 (s.seq : Int)) ∧ w.cell? ⟨b, off + k * 5 + 1, none⟩ = some (.string s.data) ∧ w.cell? ⟨b, off + k * 5 + 2, none⟩ = some (.bool s.fin) ∧
        w.cell? ⟨b, off + k * 5 + 3, none⟩ = some (.bool s.reads) ∧ w.cell? ⟨b, off + k * 5 + 4, none⟩ = some (.int .i64 s.n)) (fun i hi => by
      obtain ⟨s, hs, h1, h2, h3, h4, h5⟩ := hstep i hi
      rw [add_row] at h1 h2 h3 h4 h5
      simp only [← Nat.add_assoc] at h2 h3 h4 h5
      exact ⟨s, hs, h1, h2, h3, h4, h5⟩)
    exact ⟨f, .inr ⟨b, off, rfl, hb, hf'⟩⟩
end

theorem law_any (a : Option Addr) (len cap : Nat) (st : Nat → StepV) (w : World) (ha : len = 0 ∨ ∃ sb so, a = some ⟨sb, so, none⟩ ∧ sb < w.heap.size ∧ ScriptAt w sb so len st) (next : Nat) (x y z : Int) (n : Int) (h0 : next < M32) :
    Calls Try.prog 3 #[.int .u32 (next : Int), .int .i64 n, .slice a len cap, .int .u32 x, .int .u32 y, .int .u32 z] w (WorksPost w) := by
  have ha' : len = 0 ∨ ∃ sb so, a = some ⟨sb, so, none⟩ ∧ ScriptAt w sb so len st := by
    rcases ha with h | ⟨sb, so, h3, _, h4⟩
    · exact .inl h
    · exact .inr ⟨sb, so, h3, h4⟩
  by_cases h1 : n < 1 ∨ 65536 < n
  · exact law_no a len cap st w ha' next x y z n h1
  · by_cases h2 : 2048 < n
    · exact law_big a len cap st w ha' next x y z n h2 (by omega)
    · obtain ⟨m, rfl⟩ := Int.eq_ofNat_of_zero_le (show 0 ≤ n by omega)
      exact law_yes a len cap st w ha next x y z m h0 (by omega) (by omega)

namespace flowPlays
set_option maxRecDepth 100000 in
theorem lifted (os : Os) (started : os.Started) (H : Type) (enc : TypeId × Value → H) :
    ReturnsInHanded {} Try.checked os 3 .any (Rows.flowPlaysSpec.pre6 enc Try.prog Try.f3 Rows.flowPlaysRow.domain false) (Rows.flowPlaysSpec.post enc Try.prog Try.f3 false true false false) := by
  refine returnsInHanded_of_change (C := Try.checked) own started (by kernel_rfl) Try.func3
    (ChangeSpec.witness6 (enc := enc) (C := Try.checked) false ⟨#[], #[.int .u32 0, .int .i64 0, .slice none 0 0, .int .u32 0, .int .u32 0, .int .u32 0], []⟩ 8 (by kernel_rfl) (by kernel_rfl) (by kernel_rfl) (by kernel_rfl)) ?_
  intro W base args ds gs before hval0 hW hcnd _
  have hval : ∀ (j : Nat) t v, Try.f3.params[j]? = some t → args[j]? = some v → Value.okWide Try.prog W .any base t v := hval0
  have hW' := hW
  have hlt := DataW.Whole.lt hW
  obtain ⟨p, q, hA0, hV, rfl, hfz, hnd⟩ := hW
  have hA : DataW.TrodAll enc Try.prog W 0 (fun _ => true) true Try.f3.params.toList args.toList ds p := hA0
  rw [Try.params3] at hA hval
  have hA1 := hA
  obtain ⟨argl⟩ := args
  obtain ⟨v0, l0, d0, ds0, p0, q0, e0, rfl, rfl, h0, hA⟩ := trodAll_cons hA
  obtain ⟨v1, l1, d1, ds1, p1, q1, rfl, rfl, rfl, h1, hA⟩ := trodAll_cons hA
  obtain ⟨v2, l2, d2, ds2, p2, q2, rfl, rfl, rfl, h2, hA⟩ := trodAll_cons hA
  obtain ⟨v3, l3, d3, ds3, p3, q3, rfl, rfl, rfl, h3, hA⟩ := trodAll_cons hA
  obtain ⟨v4, l4, d4, ds4, p4, q4, rfl, rfl, rfl, h4, hA⟩ := trodAll_cons hA
  obtain ⟨v5, l5, d5, ds5, p5, q5, rfl, rfl, rfl, h5, hA⟩ := trodAll_cons hA
  obtain ⟨rfl, rfl, rfl⟩ := trodAll_nil hA
  obtain ⟨rfl, rfl⟩ := trodVars_none hV
  have ea : argl = [v0, v1, v2, v3, v4, v5] := e0
  subst ea
  obtain ⟨x0, rfl, _, _, hwf⟩ := open_int Try.underlying22 (hval 0 22 v0 rfl rfl) h0
  obtain ⟨x1, rfl, _⟩ := open_int Try.underlying3 (hval 1 3 v1 rfl rfl) h1
  obtain ⟨a, len, cap, rfl⟩ := okWide_slice Try.underlying23 (hval 2 23 v2 rfl rfl)
  obtain ⟨x3, rfl, _⟩ := open_int Try.underlying22 (hval 3 22 v3 rfl rfl) h3
  obtain ⟨x4, rfl, _⟩ := open_int Try.underlying22 (hval 4 22 v4 rfl rfl) h4
  obtain ⟨x5, rfl, _⟩ := open_int Try.underlying22 (hval 5 22 v5 rfl rfl) h5
  obtain ⟨z, rfl, hz⟩ := u32_nat hwf
  obtain ⟨st, hs⟩ := open_script h2
  clear hA0 hval0
  refine (law_any a len cap st W hs z x3 x4 x5 x1 hz).mono fun e W' ⟨he, hg⟩ => ?_
  subst he
  have hb := below_of hg
  refine ⟨_, rfl, _, _, _, [], _, [], hW', trodAll_cons_mk (shut_bool Try.underlying4 _) trodAll_mk0,
    all_below laidOut hb (fun t ht => ?_) hA1 (fun x hx => hlt x (by simp only [List.append_nil] at hx ⊢; exact hx)), rfl, hb.frame _, fun h => by cases h⟩
  have ht' : t = 22 ∨ t = 3 ∨ t = 23 := by
    rcases (show t = 22 ∨ t = 3 ∨ t = 23 ∨ t = 22 ∨ t = 22 ∨ t = 22 by simpa using ht) with h | h | h | h | h | h <;> simp [h]
  rcases ht' with rfl | rfl | rfl
  · exact ⟨by kernel_rfl, of_decide_eq_true (by kernel_rfl)⟩
  · exact ⟨by kernel_rfl, of_decide_eq_true (by kernel_rfl)⟩
  · exact ⟨by kernel_rfl, of_decide_eq_true (by kernel_rfl)⟩

theorem proved : Rows.FlowPlaysSaid :=
  OpenClaim.holds_of_wide 3 Try.f3 rfl rfl rfl rfl rfl rfl rfl ⟨rfl, rfl, rfl, rfl, rfl⟩ rfl rfl rfl rfl rfl (by kernel_rfl) Try.func3 (by kernel_rfl)
    (of_decide_eq_true (by kernel_rfl)) (by unfold Func.isWrapper; first | (rw [if_pos (by decide +kernel)]; kernel_rfl) | (rw [if_neg (by decide +kernel)]; exact ⟨rfl, rfl⟩))
    (fun os started H enc _ => lifted os started H enc)
#print axioms proved
end flowPlays
end Go.Proofs.Ythcjmghdmcapeaa
