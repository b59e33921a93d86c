/-
  The walk of a timer's Sample: the first one, a later one, one that is too late.
-/
import Derived.Test.YtpgaohmmjjgboaaSet
namespace Go.Proofs.Ytpgaohmmjjgboaa
open Go.RowKit Ieee Fl

theorem run_store_float (P : Program) (w : World) (a : Addr) (m : Mode) (k : FloatKind) (b : Nat) : (store a (.float k b) m).run P w = stored P w a (.float k b) m := run_store P w a _ m rfl
attribute [local go_sem] run_store_float

def TWO : Nat := 4611686018427387904

theorem box_at (w : World) (o : Obj) : (w.alloc o).heap[w.heap.size]? = some o := by simp only [World.alloc, Array.getElem?_push, if_true]
theorem pt_set {w : World} {p b j : Nat} {v u : Value} {t : TypeId} (h : w.heap[p]? = some (.cells #[v] t (0, 0))) (hne : b ≠ p) : (w.setCell ⟨b, j, none⟩ u).heap[p]? = some (.cells #[v] t (0, 0)) :=
  (Below.heap_setCell w ⟨b, j, none⟩ u p (fun e => hne e.symm)).trans h

theorem sample_late (w : World) (b : Nat) (n : Int) (hn : 4294967296 < n) :
    Calls Try.prog 13 #[.pointer (some ⟨b, 0, none⟩), .int .u64 n] w fun e w' => e = .returned (.tuple #[]) ∧ w.grownBy w' none := by
  go_enter_defers Try.func13, Try.ntmps13
  go_wp2_with fail
  exact ⟨_, results_none rfl _ _ _, rfl, g_alloc (World.grownBy.refl _ _) _⟩

theorem sample_nil (w : World) (n : Int) :
    Calls Try.prog 13 #[.pointer none, .int .u64 n] w fun e w' => e = .returned (.tuple #[]) ∧ w.grownBy w' none := by
  go_enter_defers Try.func13, Try.ntmps13
  go_wp2_with fail
  exact ⟨_, results_none rfl _ _ _, rfl, g_alloc (World.grownBy.refl _ _) _⟩

set_option maxHeartbeats 1000000 in
theorem sample_first (w : World) (b : Nat) (L M : Int) (s d : Nat) (v n : Int) (ht : Tm w b 54 L M s d v) (hn0 : 0 ≤ n) (hn : n ≤ 4294967296) (hs : nanB s = true) (hs2 : s < 2 ^ 64)
    (d' : Nat) (hd : double.div (floatOfInt .f64 n) TWO = some d') (hd2 : d' < INF) (n' : Int) (hv : valO (floatOfInt .f64 n) d' = some n') :
    Calls Try.prog 13 #[.pointer (some ⟨b, 0, none⟩), .int .u64 n] w fun e w' => e = .returned (.tuple #[]) ∧ Tm w' b 54 L M (floatOfInt .f64 n) d' (clamp L M n') ∧ w.grownBy w' (some b) := by
  have hlt := lt_of ht.out
  have u := nan_is hs hs2
  have hmf : ∀ (fn : Fn) (first cap : Array Value) (w : World), (Instr.makeFunc fn first cap).run Try.prog w = .ok (.func fn first cap) w := fun _ _ _ _ => rfl
  have e1 := fun W => run_float_arith (P := Try.prog) W .quo 33 .f64 _ _ _ hd
  unfold TWO at e1
  have c2 := cell_of ht 2 _ rfl
  clear hs hd
  go_enter_defers Try.func13, Try.ntmps13
  go_wp2_with fail
  go_quiet (fail)
  go_wp2_with fail
  clear c2
  obtain ⟨p, hp⟩ : ∃ p, p = w.heap.size := ⟨_, rfl⟩
  have hne : b ≠ p := by omega
  rw [← hp]
  have hT : Tm ((w.alloc (.cells #[.pointer (some ⟨b, 0, none⟩)] 27)).drewN nq) b 54 L M s d v := (ht.alloc _).drewN _
  have hP : ((w.alloc (.cells #[.pointer (some ⟨b, 0, none⟩)] 27)).drewN nq).heap[p]? = some (.cells #[.pointer (some ⟨b, 0, none⟩)] 27 (0, 0)) := by rw [hp]; exact box_at w _
  have hG : w.grownBy ((w.alloc (.cells #[.pointer (some ⟨b, 0, none⟩)] 27)).drewN nq) (some b) := g_drewN (g_alloc (World.grownBy.refl _ _) _) _
  generalize (w.alloc (.cells #[.pointer (some ⟨b, 0, none⟩)] 27)).drewN nq = W1 at *
  have cp := cell_of hP 0 _ rfl
  have c2 := cell_of hT 2 _ rfl
  have c3 := cell_of hT 3 _ rfl
  have f2 := frozen_of hT 2
  have f3 := frozen_of hT 3
  have HP := Lib.hid hp
  clear hp
  go_region
  go_wp2
  refine leaves_cons (f := 27) (args := #[.pointer (some ⟨p, 0, none⟩)]) (by simp) (by simp [go_sem]) ?_
  refine (clo_any .returning _ p b L M (floatOfInt .f64 n) d' v n' ?_ ?_ hd2 hv).mono ?_
  · exact pt_set (pt_set hP hne) hne
  · exact (hT.set2 _).set3 _
  rintro e u' w'' ⟨rfl, rfl, h1, h2⟩
  exact ⟨_, results_none rfl _ _ _, rfl, h1, g_trans (g_drew (g_set (g_set hG _ _) _ _)) h2⟩

def Q75 : Nat := 4604930618986332160
def Q875 : Nat := 4606056518893174784

/-- a smooth time and a deviation that are numbers: mixed -/
def mixF (o s w : Nat) : Nat := min (addR (mulR o w) (mulR s (subR ONEB w))) INF

theorem fin_ge0 {x : Nat} (hx : x < INF) : ge0 x = true := by
  unfold ge0 gtB eqB
  rw [ord_gt_pos hx (show 0 < INF by decide), ord_eq_pos hx (show 0 < INF by decide), ← Bool.decide_or, decide_eq_true_iff]
  omega
theorem fin_le1 {x : Nat} (hx : x ≤ ONEB) : le1 x = true := by
  have ho : ONEB < INF := by decide
  unfold le1 ltB eqB
  rw [ord_lt_pos (Nat.lt_of_le_of_lt hx ho) ho, ord_eq_pos (Nat.lt_of_le_of_lt hx ho) ho, ← Bool.decide_or, decide_eq_true_iff]
  omega
theorem fin_num {x : Nat} (hx : x < INF) : nanB x = false := by
  unfold nanB
  rw [bne, ord_eq_pos hx hx]; simp
theorem mulR_le1 {x y : Nat} (hy : y ≤ ONEB) : mulR x y ≤ x := mulR_le (Nat.mul_le_mul_left _ (by rw [← RV_ONEB]; exact RV_mono hy))
theorem subR_le1 {w : Nat} (hw : w ≤ ONEB) : subR ONEB w ≤ ONEB := subR_le (by unfold dif; have := RV_mono hw; omega)

theorem mixF_facts {o s w : Nat} (ho : o < INF) (hs : s < INF) (hw : w ≤ ONEB) :
    ge0 w = true ∧ le1 w = true ∧ nanB o = false ∧ ge0 s = true ∧ infB s = false ∧ double.mul o w = some (mulR o w) ∧ double.sub ONEB w = some (subR ONEB w) ∧ double.mul s (subR ONEB w) = some (mulR s (subR ONEB w)) ∧
      double.add (mulR o w) (mulR s (subR ONEB w)) = some (mixF o s w) := by
  have hone : ONEB < INF := by decide
  have hwI : w < INF := Nat.lt_of_le_of_lt hw hone
  have h1 := mulR_le1 (x := o) hw
  have h2 := subR_le1 hw
  have h3 := mulR_le1 (x := s) h2
  have hv : subR ONEB w < INF := Nat.lt_of_le_of_lt h2 hone
  refine ⟨fin_ge0 hwI, fin_le1 hw, fin_num ho, fin_ge0 hs, notinf hs, ?_, ?_, ?_, add_pos (Nat.lt_of_le_of_lt h1 ho) (Nat.lt_of_le_of_lt h3 hs)⟩
  · have h := mul_pos ho hwI
    rwa [Nat.min_eq_left (Nat.le_of_lt (Nat.lt_of_le_of_lt h1 ho))] at h
  · have h := sub_pos hone hwI hw
    rwa [Nat.min_eq_left (Nat.le_of_lt hv)] at h
  · have h := mul_pos hs hv
    rwa [Nat.min_eq_left (Nat.le_of_lt (Nat.lt_of_le_of_lt h3 hs))] at h

theorem mix_fin (o s w : Nat) (W : World) (ho : o < INF) (hs : s < INF) (hw : w ≤ ONEB) :
    Calls Try.prog 21 #[.float .f64 o, .float .f64 s, .float .f64 w] W fun e w' => e = .returned (.float .f64 (mixF o s w)) ∧ w' = W := by
  obtain ⟨h1, h2, h3, h4, h5, h6, h7, h8, h9⟩ := mixF_facts ho hs hw
  have hi := INF_lt
  exact (mix_calc o s w _ _ _ _ W (by omega) h1 h2 h3 h4 h5 h6 h7 h8 h9).mono fun e w' ⟨he, hw'⟩ => ⟨he, hw'.symm⟩

theorem mixr_fin (o s w : Nat) (W : World) (ho : o < INF) (hs : s < INF) (hw : w ≤ ONEB) :
    Calls Try.prog 22 #[.float .f64 o, .float .f64 s, .float .f64 w] W fun e w' => e = .returned (.float .f64 (mixF o s w)) ∧ ∃ n, w' = W.drewN n := by
  obtain ⟨h1, h2, h3, h4, h5, h6, h7, h8, h9⟩ := mixF_facts ho hs hw
  have hi := INF_lt
  have hone : ONEB < INF := by decide
  exact mixr_calc o s w _ _ _ _ W (by omega) (by omega) h1 h2 h3 h4 h5 h6 h7 h8 h9

theorem sub_abs {s x : Nat} (hs : s < INF) (hx : x < INF) : ∃ y, double.sub s x = some y ∧ y < 2 ^ 64 ∧ absB y = subR s x ∧ subR s x < INF := by
  have h := sub_wd hs hx
  have hle : subR s x < INF := by
    rcases Nat.le_total s x with h' | h'
    · have : subR s x ≤ x := subR_le (by unfold dif; have := RV_mono h'; omega)
      omega
    · have : subR s x ≤ s := subR_le (by unfold dif; have := RV_mono h'; omega)
      omega
  have hi := INF_lt
  rw [Nat.min_eq_left (by omega)] at h
  exact ⟨_, h, wd_lt _ (by omega), absB_wd _ (by omega), hle⟩

set_option maxHeartbeats 2000000 in
theorem sample_later (w : World) (b : Nat) (L M : Int) (s d : Nat) (v n : Int) (ht : Tm w b 54 L M s d v) (hn0 : 0 ≤ n) (hn : n ≤ 4294967296) (hs : s < INF) (hdI : d < INF) (hx : floatOfInt .f64 n < INF)
    (s' d' : Nat) (es : s' = mixF s (floatOfInt .f64 n) Q875) (ed : d' = mixF d (subR s (floatOfInt .f64 n)) Q75) (hd2 : d' < INF) (n' : Int) (hv : valO s' d' = some n') :
    Calls Try.prog 13 #[.pointer (some ⟨b, 0, none⟩), .int .u64 n] w fun e w' => e = .returned (.tuple #[]) ∧ Tm w' b 54 L M s' d' (clamp L M n') ∧ w.grownBy w' (some b) := by
  have hlt := lt_of ht.out
  have hi := INF_lt
  have u : FloatKind.f64.format.order s s = some .eq := nan_not (fin_num hs)
  have hmf : ∀ (fn : Fn) (first cap : Array Value) (w : World), (Instr.makeFunc fn first cap).run Try.prog w = .ok (.func fn first cap) w := fun _ _ _ _ => rfl
  obtain ⟨y, hsub, hy, hay, hyI⟩ := sub_abs hs hx
  have e1 := fun W => run_float_arith (P := Try.prog) W .sub 33 .f64 _ _ _ hsub
  have hq1 : Q75 ≤ ONEB := by decide
  have hq2 : Q875 ≤ ONEB := by decide
  have m1 : ∀ W, Calls Try.prog 21 #[.float .f64 d, .float .f64 (absB y), .float .f64 4604930618986332160] W fun e w' => e = .returned (.float .f64 d') ∧ w' = W := fun W => by rw [hay, ed]; exact mix_fin d _ Q75 W hdI hyI hq1
  have m2 : ∀ W, Calls Try.prog 21 #[.float .f64 s, .float .f64 (floatOfInt .f64 n), .float .f64 4606056518893174784] W fun e w' => e = .returned (.float .f64 s') ∧ w' = W := fun W => by rw [es]; exact mix_fin s _ Q875 W hs hx hq2
  have a1 : ∀ W, Calls Try.prog 28 #[.float .f64 y] W fun e w' => e = .returned (.float .f64 (absB y)) ∧ w' = W := fun W => (abs_any y hy W).mono fun e w' ⟨h1, h2⟩ => ⟨h1, h2.symm⟩
  have A1 := Lib.hid a1
  have M1 := Lib.hid m1
  have M2 := Lib.hid m2
  have c2 := cell_of ht 2 _ rfl
  clear hsub hy hay hyI hq1 hq2 m1 m2 a1 es ed
  go_enter_defers Try.func13, Try.ntmps13
  go_wp2_with fail
  go_quiet (fail)
  go_wp2_with fail
  clear c2
  obtain ⟨p, hp⟩ : ∃ p, p = w.heap.size := ⟨_, rfl⟩
  have hne : b ≠ p := by omega
  rw [← hp]
  have hT : Tm ((w.alloc (.cells #[.pointer (some ⟨b, 0, none⟩)] 27)).drewN nq) b 54 L M s d v := (ht.alloc _).drewN _
  have hP : ((w.alloc (.cells #[.pointer (some ⟨b, 0, none⟩)] 27)).drewN nq).heap[p]? = some (.cells #[.pointer (some ⟨b, 0, none⟩)] 27 (0, 0)) := by rw [hp]; exact box_at w _
  have hG : w.grownBy ((w.alloc (.cells #[.pointer (some ⟨b, 0, none⟩)] 27)).drewN nq) (some b) := g_drewN (g_alloc (World.grownBy.refl _ _) _) _
  generalize (w.alloc (.cells #[.pointer (some ⟨b, 0, none⟩)] 27)).drewN nq = W1 at *
  have cp := cell_of hP 0 _ rfl
  have c2 := cell_of hT 2 _ rfl
  have c3 := cell_of hT 3 _ rfl
  have f3 := frozen_of hT 3
  have HP := Lib.hid hp
  clear hp
  go_still_tail 15, (by kernel_rfl)
  still_call (A1.out _)
  repeat still_step
  still_call (M1.out _)
  repeat still_step
  refine wpStill_nil ?_
  change wpList _ _ _ _ _ W1.drew
  clear cp c2 c3 f3
  have hT2 : Tm W1.drew b 54 L M s d v := hT.drew
  have hP2 : W1.drew.heap[p]? = some (.cells #[.pointer (some ⟨b, 0, none⟩)] 27 (0, 0)) := hP
  have hG2 : w.grownBy W1.drew (some b) := g_drew hG
  clear hT hP hG
  generalize W1.drew = W2 at *
  have c3 := cell_of hT2 3 _ rfl
  have f3 := frozen_of hT2 3
  go_wp2_with fail
  clear c3 f3
  have hT3 : Tm (W2.setCell ⟨b, 3, none⟩ (.float .f64 d')) b 54 L M s d' v := hT2.set3 _
  have hP3 : (W2.setCell ⟨b, 3, none⟩ (.float .f64 d')).heap[p]? = some (.cells #[.pointer (some ⟨b, 0, none⟩)] 27 (0, 0)) := pt_set hP2 hne
  have hG3 : w.grownBy (W2.setCell ⟨b, 3, none⟩ (.float .f64 d')) (some b) := g_set hG2 _ _
  clear hT2 hP2 hG2
  generalize W2.setCell ⟨b, 3, none⟩ (.float .f64 d') = W3 at *
  have cp := cell_of hP3 0 _ rfl
  have c2 := cell_of hT3 2 _ rfl
  go_still_tail 9, (by kernel_rfl)
  still_call (M2.out _)
  repeat still_step
  refine wpStill_nil ?_
  change wpList _ _ _ _ _ W3.drew
  clear cp c2
  have hT4 : Tm W3.drew b 54 L M s d' v := hT3.drew
  have hP4 : W3.drew.heap[p]? = some (.cells #[.pointer (some ⟨b, 0, none⟩)] 27 (0, 0)) := hP3
  have hG4 : w.grownBy W3.drew (some b) := g_drew hG3
  clear hT3 hP3 hG3
  generalize W3.drew = W4 at *
  have c2 := cell_of hT4 2 _ rfl
  have f2 := frozen_of hT4 2
  go_wp2_with fail
  refine leaves_cons (f := 27) (args := #[.pointer (some ⟨p, 0, none⟩)]) (by simp) (by simp [go_sem]) ?_
  refine (clo_any .returning _ p b L M s' d' v n' ?_ ?_ hd2 hv).mono ?_
  · exact pt_set hP4 hne
  · exact hT4.set2 _
  rintro e u' w'' ⟨rfl, rfl, h1, h2⟩
  exact ⟨_, results_none rfl _ _ _, rfl, h1, g_trans (g_set hG4 _ _) h2⟩

end Go.Proofs.Ytpgaohmmjjgboaa
