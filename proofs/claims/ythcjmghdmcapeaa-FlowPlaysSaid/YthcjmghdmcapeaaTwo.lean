/-
  Both queues side by side in memory, and a box beside them.
-/
import Derived.Test.YthcjmghdmcapeaaWorks
namespace Go.Proofs.Ythcjmghdmcapeaa
open Go.RowKit Go.Maps Go.ChangeShapes

/-- both queues in memory, since w0: the program's holds q1, the reference's q2 -/
def Two (w0 w : World) (bq bm br bi bb : Nat) (q1 q2 : Q) : Prop := ∃ rv D en bs v, FQ w w0.heap.size bq bm rv q1 D en ∧ RQ w w0.heap.size br bi bb bs q2 v ∧ Fr (fun _ => False) w0 w ∧
  (∀ r, rv.ownBlock = some r → w0.heap.size ≤ r ∧ r ≠ br ∧ r ≠ bi ∧ r ≠ bb) ∧ (bq ≠ br ∧ bq ≠ bi ∧ bq ≠ bb ∧ bm ≠ br ∧ bm ≠ bi ∧ bm ≠ bb)

/-- .. and a box that lies apart from them -/
def TwoX (w0 w : World) (bq bm br bi bb : Nat) (q1 q2 : Q) (bx : Nat) (xs : Array Value) : Prop := ∃ rv D en bs v, FQ w w0.heap.size bq bm rv q1 D en ∧ RQ w w0.heap.size br bi bb bs q2 v ∧ Fr (fun _ => False) w0 w ∧
  (∀ r, rv.ownBlock = some r → w0.heap.size ≤ r ∧ r ≠ br ∧ r ≠ bi ∧ r ≠ bb ∧ r ≠ bx) ∧ (bq ≠ br ∧ bq ≠ bi ∧ bq ≠ bb ∧ bm ≠ br ∧ bm ≠ bi ∧ bm ≠ bb) ∧ (bx ≠ bq ∧ bx ≠ bm ∧ bx ≠ br ∧ bx ≠ bi ∧ bx ≠ bb) ∧
  w.heap[bx]? = some (.cells xs 36 (0, 0))

section
variable {w0 w : World} {bq bm br bi bb bx : Nat} {q1 q2 : Q} {xs : Array Value}

theorem TwoX.two (h : TwoX w0 w bq bm br bi bb q1 q2 bx xs) : Two w0 w bq bm br bi bb q1 q2 := by
  obtain ⟨rv, D, en, bs, v, h1, h2, h3, h4, h5, _⟩ := h
  exact ⟨rv, D, en, bs, v, h1, h2, h3, fun r hr => ⟨(h4 r hr).1, (h4 r hr).2.1, (h4 r hr).2.2.1, (h4 r hr).2.2.2.1⟩, h5⟩

theorem TwoX.cell (h : TwoX w0 w bq bm br bi bb q1 q2 bx xs) (j : Nat) (x : Value) (hx : xs[j]? = some x) : w.cell? ⟨bx, j, none⟩ = some x := by
  obtain ⟨rv, D, en, bs, v, _, _, _, _, _, _, h6⟩ := h
  exact cell_of h6 j x hx

theorem Two.boxed (h : Two w0 w bq bm br bi bb q1 q2) (xs : Array Value) : TwoX w0 (w.alloc (.cells xs 36)) bq bm br bi bb q1 q2 w.heap.size xs := by
  obtain ⟨rv, D, en, bs, v, h1, h2, h3, h4, h5⟩ := h
  have e1 := lt_of h1.cells
  have e2 := map_lt h1.own
  have e3 := lt_of h2.cells
  have e4 := lt_of h2.is
  have e5 := lt_of h2.b
  refine ⟨rv, D, en, bs, v, h1.new (Fr.refl.alloc _), h2.new (Fr.refl.alloc _), h3.alloc _, fun r hr => ?_, h5, ⟨by omega, by omega, by omega, by omega, by omega⟩, box_at w _⟩
  have := rdy_real h1.rdy r hr
  have := h4 r hr
  exact ⟨this.1, this.2.1, this.2.2.1, this.2.2.2, by omega⟩

theorem TwoX.drew (h : TwoX w0 w bq bm br bi bb q1 q2 bx xs) : TwoX w0 w.drew bq bm br bi bb q1 q2 bx xs := by
  obtain ⟨rv, D, en, bs, v, h1, h2, h3, h4, h5, h6, h7⟩ := h
  exact ⟨rv, D, en, bs, v, h1.new Fr.refl.drew, h2.new Fr.refl.drew, h3.drew, h4, h5, h6, h7⟩
theorem Two.drewN (h : Two w0 w bq bm br bi bb q1 q2) (n : Nat) : Two w0 (w.drewN n) bq bm br bi bb q1 q2 := by
  obtain ⟨rv, D, en, bs, v, h1, h2, h3, h4, h5⟩ := h
  exact ⟨rv, D, en, bs, v, h1.new (Fr.refl.drewN _), h2.new (Fr.refl.drewN _), h3.drewN _, h4, h5⟩
theorem Two.drew (h : Two w0 w bq bm br bi bb q1 q2) : Two w0 w.drew bq bm br bi bb q1 q2 := by
  obtain ⟨rv, D, en, bs, v, h1, h2, h3, h4, h5⟩ := h
  exact ⟨rv, D, en, bs, v, h1.new Fr.refl.drew, h2.new Fr.refl.drew, h3.drew, h4, h5⟩
theorem Two.fr (h : Two w0 w bq bm br bi bb q1 q2) : Fr (fun _ => False) w0 w := by
  obtain ⟨rv, D, en, bs, v, _, _, h3, _⟩ := h
  exact h3

/-- what the program's queue does, beside the reference's and the box -/
theorem TwoX.left {q1' : Q} {w' : World} {rv rv' : Value} {D D' : Dm} {en en' : Nat} {bs : List UInt8} {v : Int}
    (h1 : FQ w w0.heap.size bq bm rv q1 D en) (h2 : RQ w w0.heap.size br bi bb bs q2 v) (h3 : Fr (fun _ => False) w0 w)
    (h4 : ∀ r, rv.ownBlock = some r → w0.heap.size ≤ r ∧ r ≠ br ∧ r ≠ bi ∧ r ≠ bb ∧ r ≠ bx) (h5 : bq ≠ br ∧ bq ≠ bi ∧ bq ≠ bb ∧ bm ≠ br ∧ bm ≠ bi ∧ bm ≠ bb) (h6 : bx ≠ bq ∧ bx ≠ bm ∧ bx ≠ br ∧ bx ≠ bi ∧ bx ≠ bb) (h7 : w.heap[bx]? = some (.cells xs 36 (0, 0)))
    (F : FQ w' w0.heap.size bq bm rv' q1' D' en') (f : Fr (Own3 bq bm rv) w w') (l : Loc w rv rv') : TwoX w0 w' bq bm br bi bb q1' q2 bx xs := by
  have e3 := lt_of h2.cells
  have e4 := lt_of h2.is
  have e5 := lt_of h2.b
  have e7 := lt_of h7
  have hsz := h3.size
  refine ⟨rv', D', en', bs, v, F, h2.kept f ?_ ?_ ?_, own_fr h3 f h1.apart.1 h1.apart.2.1 (fun r hr => (h4 r hr).1), ?_, h5, h6, f.keeps h7 ?_⟩
  · rintro (e | e | e)
    · exact h5.1 e.symm
    · exact h5.2.2.2.1 e.symm
    · exact (h4 _ e).2.1 rfl
  · rintro (e | e | e)
    · exact h5.2.1 e.symm
    · exact h5.2.2.2.2.1 e.symm
    · exact (h4 _ e).2.2.1 rfl
  · rintro (e | e | e)
    · exact h5.2.2.1 e.symm
    · exact h5.2.2.2.2.2 e.symm
    · exact (h4 _ e).2.2.2.1 rfl
  · intro r hr
    rcases l with e | ⟨r', e, e'⟩
    · exact h4 r (by rw [← e]; exact hr)
    · rw [e] at hr
      injection hr with hr
      exact ⟨by omega, by omega, by omega, by omega, by omega⟩
  · rintro (e | e | e)
    · exact h6.1 e
    · exact h6.2.1 e
    · exact (h4 _ e).2.2.2.2 rfl

/-- what the reference's queue does, beside the program's and the box -/
theorem TwoX.right {q2' : Q} {w' : World} {rv : Value} {D : Dm} {en : Nat} {bs bs' : List UInt8} {v v' : Int}
    (h1 : FQ w w0.heap.size bq bm rv q1 D en) (h2 : RQ w w0.heap.size br bi bb bs q2 v) (h3 : Fr (fun _ => False) w0 w)
    (h4 : ∀ r, rv.ownBlock = some r → w0.heap.size ≤ r ∧ r ≠ br ∧ r ≠ bi ∧ r ≠ bb ∧ r ≠ bx) (h5 : bq ≠ br ∧ bq ≠ bi ∧ bq ≠ bb ∧ bm ≠ br ∧ bm ≠ bi ∧ bm ≠ bb) (h6 : bx ≠ bq ∧ bx ≠ bm ∧ bx ≠ br ∧ bx ≠ bi ∧ bx ≠ bb) (h7 : w.heap[bx]? = some (.cells xs 36 (0, 0)))
    (F : RQ w' w0.heap.size br bi bb bs' q2' v') (f : Fr (Own3r br bi bb) w w') : TwoX w0 w' bq bm br bi bb q1 q2' bx xs := by
  refine ⟨rv, D, en, bs', v', h1.kept f ?_ ?_ ?_, F, h3.step f (fun i hi => .inr ?_), h4, h5, h6, f.keeps h7 ?_⟩
  · rintro (e | e | e)
    · exact h5.1 e
    · exact h5.2.1 e
    · exact h5.2.2.1 e
  · rintro (e | e | e)
    · exact h5.2.2.2.1 e
    · exact h5.2.2.2.2.1 e
    · exact h5.2.2.2.2.2 e
  · intro r hr
    have := h4 r hr
    rintro (e | e | e)
    · exact this.2.1 e
    · exact this.2.2.1 e
    · exact this.2.2.2.1 e
  · have := h2.apart
    rcases hi with e | e | e
    · omega
    · omega
    · omega
  · rintro (e | e | e)
    · exact h6.2.2.1 e
    · exact h6.2.2.2.1 e
    · exact h6.2.2.2.2 e

/-- does a Put move the next number? -/
def movedB (q : Q) (seq : Nat) (s : ByteArray) (fin : Bool) : Bool := decide ((q.put seq s.data.toList fin).next ≠ q.next)
def StepPost (w0 : World) (bq bm br bi bb : Nat) (q1 q2 : Q) (bx : Nat) (xs : Array Value) (r : Value) (e : Ending) (w' : World) : Prop := e = .returned r ∧ TwoX w0 w' bq bm br bi bb q1 q2 bx xs

theorem t_put (h : TwoX w0 w bq bm br bi bb q1 q2 bx xs) (seq : Nat) (s : ByteArray) (fin : Bool) :
    Calls Try.prog 15 #[.pointer (some ⟨bq, 0, none⟩), .int .u32 (seq : Int), .string s, .bool fin] w (StepPost w0 bq bm br bi bb (q1.put seq s.data.toList fin) q2 bx xs (.bool (movedB q1 seq s fin))) := by
  obtain ⟨rv, D, en, bs, v, h1, h2, h3, h4, h5, h6, h7⟩ := h
  refine (fput_any h1 h3.size seq s fin).mono ?_
  rintro e w' ⟨rfl, rv', D', en', F, f, l⟩
  exact ⟨rfl, TwoX.left h1 h2 h3 h4 h5 h6 h7 F f l⟩

theorem t_rput (h : TwoX w0 w bq bm br bi bb q1 q2 bx xs) (seq : Nat) (s : ByteArray) (fin : Bool) :
    Calls Try.prog 16 #[.pointer (some ⟨br, 0, none⟩), .int .u32 (seq : Int), .string s, .bool fin] w (StepPost w0 bq bm br bi bb q1 (q2.put seq s.data.toList fin) bx xs (.bool (movedB q2 seq s fin))) := by
  obtain ⟨rv, D, en, bs, v, h1, h2, h3, h4, h5, h6, h7⟩ := h
  refine (rput_any h2 seq s fin).mono ?_
  rintro e w' ⟨rfl, bs', v', F, f⟩
  exact ⟨rfl, TwoX.right h1 h2 h3 h4 h5 h6 h7 F f⟩

theorem t_read (h : TwoX w0 w bq bm br bi bb q1 q2 bx xs) (n : Int) :
    Calls Try.prog 13 #[.pointer (some ⟨bq, 0, none⟩), .int .i64 n] w (StepPost w0 bq bm br bi bb (q1.read (takesN n q1.ready.length)) q2 bx xs (.string ⟨(q1.ready.take (takesN n q1.ready.length)).toArray⟩)) := by
  obtain ⟨rv, D, en, bs, v, h1, h2, h3, h4, h5, h6, h7⟩ := h
  refine (fread_any h1 h3.size n).mono ?_
  rintro e w' ⟨rfl, rv', F, f, l⟩
  exact ⟨rfl, TwoX.left h1 h2 h3 h4 h5 h6 h7 F f l⟩

theorem t_rread (h : TwoX w0 w bq bm br bi bb q1 q2 bx xs) (n : Int) :
    Calls Try.prog 14 #[.pointer (some ⟨br, 0, none⟩), .int .i64 n] w (StepPost w0 bq bm br bi bb q1 (q2.read (takesN n q2.ready.length)) bx xs (.string ⟨(q2.ready.take (takesN n q2.ready.length)).toArray⟩)) := by
  obtain ⟨rv, D, en, bs, v, h1, h2, h3, h4, h5, h6, h7⟩ := h
  refine (rread_any h2 n).mono ?_
  rintro e w' ⟨rfl, F, f⟩
  exact ⟨rfl, TwoX.right h1 h2 h3 h4 h5 h6 h7 F (f.mono fun i e => .inl e)⟩

end

end Go.Proofs.Ythcjmghdmcapeaa
