/-
  The walks of the timer's methods: what they do to the timer's five cells.
-/
import Derived.Test.YtpgaohmmjjgboaaLeaf5
import Derived.StillTailTactics
import Derived.Laws.AppendOwn
import Derived.Defers
namespace Go.Proofs.Ytpgaohmmjjgboaa
open Go.RowKit Ieee Fl

section
variable {w : World} {b : Nat} {xs : Array Value} {t : TypeId}
theorem cell_of (h : w.heap[b]? = some (.cells xs t (0, 0))) (j : Nat) (x : Value) (hx : xs[j]? = some x) : w.cell? ⟨b, j, none⟩ = some x := by
  simp [World.cell?, h, hx]
theorem frozen_of (h : w.heap[b]? = some (.cells xs t (0, 0))) (j : Nat) : w.frozen? ⟨b, j, none⟩ = false := by
  simp [World.frozen?, h]
theorem lt_of (h : w.heap[b]? = some (.cells xs t (0, 0))) : b < w.heap.size := by
  rcases Nat.lt_or_ge b w.heap.size with h' | h'
  · exact h'
  · rw [Array.getElem?_eq_none h'] at h; cases h
theorem heap_set (h : w.heap[b]? = some (.cells xs t (0, 0))) (j : Nat) (v : Value) : (w.setCell ⟨b, j, none⟩ v).heap[b]? = some (.cells (xs.setIfInBounds j v) t (0, 0)) := by
  simp [World.setCell, Array.getElem?_modify, h]
end

/-- the timer's block -/
def Tm (w : World) (b : Nat) (ty : TypeId) (L M : Int) (s d : Nat) (v : Int) : Prop :=
  w.heap[b]? = some (.cells #[.int .u64 L, .int .u64 M, .float .f64 s, .float .f64 d, .int .u64 v] ty (0, 0))

theorem Tm.out {w : World} {b ty L M s d v} (h : Tm w b ty L M s d v) : w.heap[b]? = some (.cells #[.int .u64 L, .int .u64 M, .float .f64 s, .float .f64 d, .int .u64 v] ty (0, 0)) := h
theorem Tm.set2 {w : World} {b ty L M s d v} (h : Tm w b ty L M s d v) (x : Nat) : Tm (w.setCell ⟨b, 2, none⟩ (.float .f64 x)) b ty L M x d v := heap_set h.out 2 _
theorem Tm.set3 {w : World} {b ty L M s d v} (h : Tm w b ty L M s d v) (x : Nat) : Tm (w.setCell ⟨b, 3, none⟩ (.float .f64 x)) b ty L M s x v := heap_set h.out 3 _
theorem Tm.set4 {w : World} {b ty L M s d v} (h : Tm w b ty L M s d v) (x : Int) : Tm (w.setCell ⟨b, 4, none⟩ (.int .u64 x)) b ty L M s d x := heap_set h.out 4 _
theorem Tm.drew {w : World} {b ty L M s d v} (h : Tm w b ty L M s d v) : Tm w.drew b ty L M s d v := h
theorem Tm.drewN {w : World} {b ty L M s d v} (h : Tm w b ty L M s d v) (n : Nat) : Tm (w.drewN n) b ty L M s d v := h
theorem Tm.alloc {w : World} {b ty L M s d v} (h : Tm w b ty L M s d v) (o : Obj) : Tm (w.alloc o) b ty L M s d v := (Below.heap_alloc w o b (lt_of h.out)).trans h
theorem Tm.kept {w w' : World} {b ty L M s d v} {row : Option Nat} (h : Tm w b ty L M s d v) (hg : w.grownBy w' row) (hr : some b ≠ row) : Tm w' b ty L M s d v := (hg.block b (lt_of h.out) hr).trans h

section
variable {a w : World}
theorem g_drew {row : Option Nat} (h : a.grownBy w row) : a.grownBy w.drew row := ⟨h.os, h.tape, h.output, h.size, h.block⟩
theorem g_drewN {row : Option Nat} (h : a.grownBy w row) (n : Nat) : a.grownBy (w.drewN n) row := ⟨h.os, h.tape, h.output, h.size, h.block⟩
theorem g_alloc {row : Option Nat} (h : a.grownBy w row) (o : Obj) : a.grownBy (w.alloc o) row :=
  ⟨h.os, h.tape, h.output, Nat.le_trans h.size (by simp), fun i hi hne => (Below.heap_alloc w o i (Nat.lt_of_lt_of_le hi h.size)).trans (h.block i hi hne)⟩
theorem g_set {b : Nat} (h : a.grownBy w (some b)) (j : Nat) (u : Value) : a.grownBy (w.setCell ⟨b, j, none⟩ u) (some b) :=
  ⟨h.os, h.tape, h.output, by simpa [World.setCell] using h.size, fun i hi hne => (Below.heap_setCell w ⟨b, j, none⟩ u i (fun e => hne (by rw [e]))).trans (h.block i hi hne)⟩
theorem g_setNew {row : Option Nat} (h : a.grownBy w row) {p : Addr} (hp : a.heap.size ≤ p.block) (u : Value) : a.grownBy (w.setCell p u) row :=
  ⟨h.os, h.tape, h.output, by simpa [World.setCell] using h.size, fun i hi hne => (Below.heap_setCell w p u i (by rintro rfl; omega)).trans (h.block i hi hne)⟩
theorem g_trans {c : World} {row : Option Nat} (h : a.grownBy w row) (k : w.grownBy c row) : a.grownBy c row :=
  ⟨k.os.trans h.os, k.tape.trans h.tape, k.output.trans h.output, Nat.le_trans h.size k.size, fun i hi hne => (k.block i (Nat.lt_of_lt_of_le hi h.size) hne).trans (h.block i hi hne)⟩
end

/-- a value within its bounds -/
def clamp (L M n : Int) : Int := min (max n L) M

theorem set_any (w : World) (b : Nat) (L M : Int) (s d : Nat) (v n : Int) (ht : Tm w b 54 L M s d v) :
    Calls Try.prog 24 #[.pointer (some ⟨b, 0, none⟩), .int .u64 n] w fun e w' => e = .returned (.tuple #[]) ∧ Tm w' b 54 L M s d (clamp L M n) ∧ w.grownBy w' (some b) := by
  have c0 := cell_of ht 0 _ rfl
  have c1 := cell_of ht 1 _ rfl
  have c4 := cell_of ht 4 _ rfl
  have f4 := frozen_of ht 4
  go_enter Try.func24, Try.ntmps24
  go_region
  all_goals go_wp2
  all_goals go_end0
  all_goals refine ⟨rfl, ?_, g_drew (g_set (World.grownBy.refl _ _) _ _)⟩
  all_goals refine Tm.drew ?_
  · rw [show clamp L M n = M by unfold clamp; omega]; exact ht.set4 _
  · rw [show clamp L M n = L by unfold clamp; omega]; exact ht.set4 _
  · rw [show clamp L M n = M by unfold clamp; omega]; exact ht.set4 _
  · rw [show clamp L M n = n by unfold clamp; omega]; exact ht.set4 _

theorem value_any (w : World) (b : Nat) (L M : Int) (s d : Nat) (v : Int) (h : Tm w b 54 L M s d v) :
    Calls Try.prog 11 #[.pointer (some ⟨b, 0, none⟩)] w fun e w' => e = .returned (.int .u64 v) ∧ w = w' := by
  have c4 := cell_of h 4 _ rfl
  go_enter Try.func11, Try.ntmps11
  go_wp2
  go_ret
  exact ⟨rfl, rfl⟩

theorem value_nil (w : World) : Calls Try.prog 11 #[.pointer none] w fun e w' => e = .returned (.int .u64 0) ∧ w = w' := by
  go_enter Try.func11, Try.ntmps11
  go_wp2
  go_ret
  exact ⟨rfl, rfl⟩

theorem backoff_any (w : World) (b : Nat) (L M : Int) (s d : Nat) (v : Int) (h : Tm w b 54 L M s d v) (hv0 : 0 ≤ v) (hv : v ≤ 4294967296) :
    Calls Try.prog 15 #[.pointer (some ⟨b, 0, none⟩)] w fun e w' => e = .returned (.tuple #[]) ∧ Tm w' b 54 L M s d (clamp L M (2 * v)) ∧ w.grownBy w' (some b) := by
  have c4 := cell_of h 4 _ rfl
  go_enter Try.func15, Try.ntmps15
  go_wp2_with (go_at_call 24; refine (set_any _ _ _ _ _ _ _ _ h).mono ?_; rintro e w' ⟨rfl, h1, h2⟩)
  go_end0
  exact ⟨rfl, h1, h2⟩

theorem backoff_nil (w : World) : Calls Try.prog 15 #[.pointer none] w fun e w' => e = .returned (.tuple #[]) ∧ w = w' := by
  go_enter Try.func15, Try.ntmps15
  go_wp2_with fail
  go_end0
  exact ⟨rfl, rfl⟩

theorem smooth_any (w : World) (b : Nat) (L M : Int) (s d : Nat) (v : Int) (h : Tm w b 54 L M s d v) :
    Calls Try.prog 10 #[.pointer (some ⟨b, 0, none⟩)] w fun e w' => e = .returned (.tuple #[.float .f64 s, .float .f64 d]) ∧ ∃ n, w' = w.drewN n := by
  have c2 := cell_of h 2 _ rfl
  have c3 := cell_of h 3 _ rfl
  go_enter Try.func10, Try.ntmps10
  go_wp2_with fail
  go_quiet (fail)
  go_wp2_with fail
  go_ret2
  exact ⟨rfl, _, rfl⟩

theorem smooth_nil (w : World) : Calls Try.prog 10 #[.pointer none] w fun e w' => e = .returned (.tuple #[.float .f64 9221120237041090561, .float .f64 9221120237041090561]) ∧ w = w' := by
  go_enter Try.func10, Try.ntmps10
  go_wp2_with (go_at_call 23; refine (nanc_any _).mono ?_; rintro e w' ⟨rfl, rfl⟩)
  go_ret2
  exact ⟨rfl, rfl⟩

/- SAMPLE -/
def QUARTER : Nat := 4598175219545276416
def FOUR : Nat := 4616189618054758400
/-- the greater of a deviation and a quarter -/
def maxQ (d : Nat) : Nat := if ltB d QUARTER = true then QUARTER else d
/-- the value of a smooth time and a deviation -/
def valO (s d : Nat) : Option Int := (double.mul FOUR (maxQ d)).bind fun p => (double.add s p).bind fun q => floatToIntVal .f64 q .u64

theorem run_maxq (d : Nat) (hd : d < INF) (w : World) : (Builtin.max_ #[33, 33] 33 #[.float .f64 d, .float .f64 4598175219545276416]).run Try.prog w = .ok (.float .f64 (maxQ d)) w := by
  have hq : (4598175219545276416 : Nat) = wd false QUARTER := rfl
  have ho := order_wd false false hd (show QUARTER < INF by decide)
  have hr := read_wd false hd
  unfold maxQ ltB
  show (Builtin.max_ #[33, 33] 33 #[.float .f64 (wd false d), .float .f64 (wd false QUARTER)]).run Try.prog w = _
  have h0 : Builtin.max_ #[33, 33] 33 #[.float .f64 (wd false d), .float .f64 (wd false QUARTER)] = Builtin.max2 (.float .f64 (wd false d)) (.float .f64 (wd false QUARTER)) := by
    simp [Builtin.max_, List.foldlM]
  rw [h0]
  have hk : FloatKind.f64.format.order (wd false d) (wd false QUARTER) = double.order (wd false d) (wd false QUARTER) := rfl
  have hdec : (FloatKind.f64.decode (wd false d)).neg = false := by
    show (double.read (wd false d)).neg = false
    rw [hr]; rfl
  have hd' : double.order d QUARTER = double.order (wd false d) (wd false QUARTER) := rfl
  rw [hd', ho]
  have hm : Builtin.max2 (.float .f64 (wd false d)) (.float .f64 (wd false QUARTER)) = match FloatKind.f64.format.order (wd false d) (wd false QUARTER) with
    | none => do pure (.float .f64 (← choose (.nanMinMax .f64 true (wd false d) (wd false QUARTER))))
    | some .lt => pure (.float .f64 (wd false QUARTER))
    | some .gt => pure (.float .f64 (wd false d))
    | some .eq => pure (.float .f64 (if (FloatKind.f64.decode (wd false d)).neg then (wd false QUARTER) else (wd false d))) := rfl
  rw [hm, hk, ho, hdec]
  cases compare (sv false d) (sv false QUARTER) <;> simp [wd_pos]

theorem valO_some {s d : Nat} {n : Int} (h : valO s d = some n) : ∃ p q, double.mul FOUR (maxQ d) = some p ∧ double.add s p = some q ∧ floatToIntVal .f64 q .u64 = some n := by
  unfold valO at h
  cases h1 : double.mul FOUR (maxQ d) with
  | none => rw [h1] at h; cases h
  | some p =>
    rw [h1, Option.bind_some] at h
    cases h2 : double.add s p with
    | none => rw [h2] at h; cases h
    | some q => rw [h2, Option.bind_some] at h; exact ⟨p, q, rfl, h2, h⟩

theorem clo_any (u : FrameMode) (w : World) (p b : Nat) (L M : Int) (s d : Nat) (v n : Int) (hp : w.heap[p]? = some (.cells #[.pointer (some ⟨b, 0, none⟩)] 27 (0, 0))) (h : Tm w b 54 L M s d v) (hd : d < INF) (hv : valO s d = some n) :
    CallsD Try.prog 27 #[.pointer (some ⟨p, 0, none⟩)] u w fun e u' w' => u' = u ∧ (e = .returned (.tuple #[]) ∧ Tm w' b 54 L M s d (clamp L M n) ∧ w.grownBy w' (some b)) := by
  have cp := cell_of hp 0 _ rfl
  have c2 := cell_of h 2 _ rfl
  have c3 := cell_of h 3 _ rfl
  have hm := run_maxq d hd
  obtain ⟨x, q, h1, h2, h3⟩ := valO_some hv
  have e1 := fun W => run_float_arith (P := Try.prog) W .mul 33 .f64 FOUR _ _ h1
  have e2 := fun W => run_float_arith (P := Try.prog) W .add 33 .f64 _ _ _ h2
  have e3 := fun W => run_convert_float_int (P := Try.prog) W 33 22 .f64 .u64 _ _ (by rw [Try.underlying33]; rfl) Try.underlying22 h3
  unfold FOUR at e1
  clear h1 h2 h3 hv
  go_enter_d Try.func27, Try.ntmps27
  go_wp2_with fail
  go_still_tail 8, (by kernel_rfl)
  change wpList _ _ _ _ _ w.drew
  generalize hw2 : w.drew = w2
  have h' : Tm w2 b 54 L M s d v := by rw [← hw2]; exact h
  have hg : w.grownBy w2 (some b) := by rw [← hw2]; exact g_drew (World.grownBy.refl _ _)
  clear hw2
  go_wp2_with (go_at_call 24; refine (set_any _ _ _ _ _ _ _ _ h').mono ?_; rintro e w' ⟨rfl, h1, h2⟩)
  go_end0
  exact ⟨rfl, h1, g_trans hg h2⟩

end Go.Proofs.Ytpgaohmmjjgboaa
