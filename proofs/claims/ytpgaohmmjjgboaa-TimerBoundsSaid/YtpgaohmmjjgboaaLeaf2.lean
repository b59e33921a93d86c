/-
  The walks of the reference's Mix, of Rate and Same: each hands back what the plain functions on bits say.
-/
import Derived.Test.YtpgaohmmjjgboaaLeaf
namespace Go.Proofs.Ytpgaohmmjjgboaa
open Go.RowKit Ieee Fl

theorem lt_notnan {w y : Nat} (hw : w < 2 ^ 64) {c : Ordering} (h : FloatKind.f64.format.order w y = some c) : nanB w = false := by
  cases hn : nanB w with
  | false => rfl
  | true => exact absurd ((nan_order hn hw).symm.trans h) (by simp)
theorem none_isnan {w : Nat} (hw : w < 2 ^ 64) (h : FloatKind.f64.format.order w 0 = none) : nanB w = true := by
  rcases order_none hw (by omega) h with h | h
  · exact h
  · exact absurd h (by decide +kernel)

set_option maxHeartbeats 1000000 in
theorem mixr_calc (o s w a v b r : Nat) (W : World) (hs : s < 2 ^ 64) (hw : w < 2 ^ 64)
    (t1 : ge0 w = true) (t2 : le1 w = true) (t3 : nanB o = false) (t4 : ge0 s = true) (t5 : infB s = false)
    (ha : double.mul o w = some a) (hv : double.sub ONEB w = some v) (hb : double.mul s v = some b) (hr : double.add a b = some r) :
    Calls Try.prog 22 #[.float .f64 o, .float .f64 s, .float .f64 w] W fun e w' => e = .returned (.float .f64 r) ∧ ∃ n, w' = W.drewN n := by
  have e1 := fun W => run_float_arith (P := Try.prog) W .mul 33 .f64 o w a ha
  have e2 := fun W => run_float_arith (P := Try.prog) W .sub 33 .f64 ONEB w v hv
  have e3 := fun W => run_float_arith (P := Try.prog) W .mul 33 .f64 s v b hb
  have e4 := fun W => run_float_arith (P := Try.prog) W .add 33 .f64 a b r hr
  have u1 := ge0_cases t1
  have u2 := le1_cases t2
  have u4 := ge0_cases t4
  have n1 : nanB w = false := by rcases u1 with h | h <;> exact lt_notnan hw h
  have n2 : nanB s = false := by rcases u4 with h | h <;> exact lt_notnan hs h
  unfold ONEB at e2
  clear ha hv hb hr t1 t2 t4
  rcases u1 with u1 | u1 <;> rcases u2 with u2 | u2 <;> rcases u4 with u4 | u4
  all_goals
    go_enter Try.func22, Try.ntmps22
    go_wp2_with (first | (go_at_call 26; refine (none_any _ _).mono ?_; rintro e w' ⟨rfl, rfl⟩) | (go_at_call 31; refine (infinite_any _ hs _).mono ?_; rintro e w' ⟨rfl, n, rfl⟩))
    go_ret
    exact ⟨rfl, _, rfl⟩

set_option maxHeartbeats 2000000 in
theorem mixr_calc_nan (o s w v b : Nat) (W : World) (hs : s < 2 ^ 64) (hw : w < 2 ^ 64)
    (t1 : ge0 w = true) (t2 : le1 w = true) (t3 : nanB o = false) (t4 : ge0 s = true) (t5 : infB s = false)
    (ha : double.mul o w = none) (hv : double.sub ONEB w = some v) (hb : double.mul s v = some b) :
    Calls Try.prog 22 #[.float .f64 o, .float .f64 s, .float .f64 w] W fun e w' => ∃ r n, e = .returned (.float .f64 r) ∧ nanB r = true ∧ r < 2 ^ 64 ∧ w' = W.drewN n := by
  obtain ⟨f, hf⟩ := run_nan .mul (.inr (.inr (.inl rfl))) 33 o w ha
  have hadd : ∀ W, floatBits .add .f64 (f W) b = none := fun W => by
    obtain ⟨f1, f2, _⟩ := hf W
    show (Datum.sum (double.read (f W)) (double.read b)).map double.write = none
    obtain ⟨z, k, hk, hfw⟩ := wd_cases f2
    rw [hfw] at f1 ⊢
    rw [nanB_wd z hk] at f1
    rw [read_nan z (by simpa using f1) hk]
    rfl
  have e1 := fun W => (hf W).2.2
  have hg : ∀ W0, ∃ g : World → Nat, ∀ w, nanB (g w) = true ∧ g w < 2 ^ 64 ∧ (binOp .add 33 (.float .f64 (f W0)) (.float .f64 b)).run Try.prog w = .ok (.float .f64 (g w)) w.drew := fun W0 => run_nan .add (.inl rfl) 33 (f W0) b (hadd W0)
  obtain ⟨g, hg'⟩ : ∃ g : World → World → Nat, ∀ W0 w, nanB (g W0 w) = true ∧ g W0 w < 2 ^ 64 ∧ (binOp .add 33 (.float .f64 (f W0)) (.float .f64 b)).run Try.prog w = .ok (.float .f64 (g W0 w)) w.drew := ⟨fun W0 => Classical.choose (hg W0), fun W0 => Classical.choose_spec (hg W0)⟩
  have e4 := fun W0 w => (hg' W0 w).2.2
  have g1 := fun W0 w => (hg' W0 w).1
  have g2 := fun W0 w => (hg' W0 w).2.1
  have e2 := fun W => run_float_arith (P := Try.prog) W .sub 33 .f64 ONEB w v hv
  have e3 := fun W => run_float_arith (P := Try.prog) W .mul 33 .f64 s v b hb
  have u1 := ge0_cases t1
  have u2 := le1_cases t2
  have u4 := ge0_cases t4
  have n1 : nanB w = false := by rcases u1 with h | h <;> exact lt_notnan hw h
  have n2 : nanB s = false := by rcases u4 with h | h <;> exact lt_notnan hs h
  have G1 := Lib.hid g1
  have G2 := Lib.hid g2
  unfold ONEB at e2
  clear ha hv hb t1 t2 t4 g1 g2 hf hg hg' hadd
  rcases u1 with u1 | u1 <;> rcases u2 with u2 | u2 <;> rcases u4 with u4 | u4
  all_goals
    go_enter Try.func22, Try.ntmps22
    go_wp2_with (first | (go_at_call 26; refine (none_any _ _).mono ?_; rintro e w' ⟨rfl, rfl⟩) | (go_at_call 31; refine (infinite_any _ hs _).mono ?_; rintro e w' ⟨rfl, n, rfl⟩))
    go_ret
    exact ⟨_, n + 2, rfl, G1.out _ _, G2.out _ _, rfl⟩

set_option maxHeartbeats 1000000 in
theorem mixr_old (o s w : Nat) (W : World) (hw : w < 2 ^ 64) (t1 : (ge0 w && le1 w) = false) : Calls Try.prog 22 #[.float .f64 o, .float .f64 s, .float .f64 w] W fun e w' => e = .returned (.float .f64 o) ∧ W = w' := by
  cases h1 : ge0 w
  · have u := ge0_not h1
    clear t1 h1
    rcases u with u | u
    · have n1 := none_isnan hw u
      go_enter Try.func22, Try.ntmps22
      go_wp2_with (first | (go_at_call 26; refine (none_any _ _).mono ?_; rintro e w' ⟨rfl, rfl⟩))
      go_ret
      exact ⟨rfl, rfl⟩
    · have n1 := lt_notnan hw u
      go_enter Try.func22, Try.ntmps22
      go_wp2_with (first | (go_at_call 26; refine (none_any _ _).mono ?_; rintro e w' ⟨rfl, rfl⟩))
      go_ret
      exact ⟨rfl, rfl⟩
  · have u := ge0_cases h1
    have n1 : nanB w = false := by rcases u with h | h <;> exact lt_notnan hw h
    have u2 := le1_not (w := w) (by rw [h1] at t1; simpa using t1)
    have u2' : FloatKind.f64.format.order w 4607182418800017408 = some .gt := by
      rcases u2 with h | h
      · rcases order_none hw (by omega) h with h | h
        · rw [n1] at h; cases h
        · exact absurd h (by decide +kernel)
      · exact h
    clear t1 h1 u2
    rcases u with u | u
    all_goals
      go_enter Try.func22, Try.ntmps22
      go_wp2_with (first | (go_at_call 26; refine (none_any _ _).mono ?_; rintro e w' ⟨rfl, rfl⟩))
      go_ret
      exact ⟨rfl, rfl⟩

set_option maxHeartbeats 1000000 in
theorem mixr_sample (o s w : Nat) (W : World) (hw : w < 2 ^ 64) (t1 : ge0 w = true) (t2 : le1 w = true) (t3 : nanB o = true) : Calls Try.prog 22 #[.float .f64 o, .float .f64 s, .float .f64 w] W fun e w' => e = .returned (.float .f64 s) ∧ W = w' := by
  have u1 := ge0_cases t1
  have u2 := le1_cases t2
  have n1 : nanB w = false := by rcases u1 with h | h <;> exact lt_notnan hw h
  clear t1 t2
  rcases u1 with u1 | u1 <;> rcases u2 with u2 | u2
  all_goals
    go_enter Try.func22, Try.ntmps22
    go_wp2_with (first | (go_at_call 26; refine (none_any _ _).mono ?_; rintro e w' ⟨rfl, rfl⟩))
    go_ret
    exact ⟨rfl, rfl⟩

set_option maxHeartbeats 2000000 in
theorem mixr_stays (o s w : Nat) (W : World) (hs : s < 2 ^ 64) (hw : w < 2 ^ 64) (t1 : ge0 w = true) (t2 : le1 w = true) (t3 : nanB o = false) (t4 : (ge0 s && !infB s) = false) : Calls Try.prog 22 #[.float .f64 o, .float .f64 s, .float .f64 w] W fun e w' => e = .returned (.float .f64 o) ∧ ∃ n, w' = W.drewN n := by
  have u1 := ge0_cases t1
  have u2 := le1_cases t2
  have n1 : nanB w = false := by rcases u1 with h | h <;> exact lt_notnan hw h
  clear t1 t2
  cases h1 : ge0 s
  · have u := ge0_not h1
    clear t4 h1
    rcases u with u | u
    · have n2 := none_isnan hs u
      rcases u1 with u1 | u1 <;> rcases u2 with u2 | u2
      all_goals
        go_enter Try.func22, Try.ntmps22
        go_wp2_with (first | (go_at_call 26; refine (none_any _ _).mono ?_; rintro e w' ⟨rfl, rfl⟩))
        go_ret
        exact ⟨rfl, 0, rfl⟩
    · have n2 := lt_notnan hs u
      rcases u1 with u1 | u1 <;> rcases u2 with u2 | u2
      all_goals
        go_enter Try.func22, Try.ntmps22
        go_wp2_with (first | (go_at_call 26; refine (none_any _ _).mono ?_; rintro e w' ⟨rfl, rfl⟩))
        go_ret
        exact ⟨rfl, 0, rfl⟩
  · have u := ge0_cases h1
    have n2 : nanB s = false := by rcases u with h | h <;> exact lt_notnan hs h
    have h5 : infB s = true := by rw [h1] at t4; simpa using t4
    clear t4 h1
    rcases u with u | u <;> rcases u1 with u1 | u1 <;> rcases u2 with u2 | u2
    all_goals
      go_enter Try.func22, Try.ntmps22
      go_wp2_with (first | (go_at_call 26; refine (none_any _ _).mono ?_; rintro e w' ⟨rfl, rfl⟩) | (go_at_call 31; refine (infinite_any _ hs _).mono ?_; rintro e w' ⟨rfl, n, rfl⟩))
      go_ret
      exact ⟨rfl, _, rfl⟩

/-- THE REFERENCE's MIX, whatever the numbers are. -/
theorem mixr_any (o s w : Nat) (W : World) (ho : o < 2 ^ 64) (hs : s < 2 ^ 64) (hw : w < 2 ^ 64) :
    Calls Try.prog 22 #[.float .f64 o, .float .f64 s, .float .f64 w] W fun e w' => ∃ r n, e = .returned (.float .f64 r) ∧ FV (mixO o s w) r ∧ r < 2 ^ 64 ∧ w' = W.drewN n := by
  unfold mixO
  by_cases t0 : (ge0 w && le1 w) = false
  · rw [if_pos t0]
    exact (mixr_old o s w W hw t0).mono fun e w' ⟨he, hw'⟩ => ⟨o, 0, he, rfl, ho, hw'.symm⟩
  rw [if_neg t0]
  have t12 : ge0 w = true ∧ le1 w = true := by simpa using t0
  obtain ⟨t1, t2⟩ := t12
  by_cases t3 : nanB o = true
  · rw [if_pos t3]
    exact (mixr_sample o s w W hw t1 t2 t3).mono fun e w' ⟨he, hw'⟩ => ⟨s, 0, he, rfl, hs, hw'.symm⟩
  rw [if_neg t3]
  have t3' : nanB o = false := by simpa using t3
  by_cases t4 : (ge0 s && !infB s) = false
  · rw [if_pos t4]
    exact (mixr_stays o s w W hs hw t1 t2 t3' t4).mono fun e w' ⟨he, n, hw'⟩ => ⟨o, n, he, rfl, ho, hw'⟩
  rw [if_neg t4]
  have t45 : ge0 s = true ∧ infB s = false := by simpa using t4
  obtain ⟨t4', t5⟩ := t45
  obtain ⟨v, b, hv, hb, hbf⟩ := mix_valid hs hw t1 t2 t4' t5
  unfold mixA
  rw [hv, Option.bind_some, hb]
  cases ha : double.mul o w with
  | none => exact (mixr_calc_nan o s w v b W hs hw t1 t2 t3' t4' t5 ha hv hb).mono fun e w' ⟨r, n, he, hr, hr2, hw'⟩ => ⟨r, n, he, hr, hr2, hw'⟩
  | some a =>
    rw [Option.bind_some, Option.bind_some]
    obtain ⟨r, hr⟩ := add_valid (mul_form ha) hbf
    rw [hr]
    exact (mixr_calc o s w a v b r W hs hw t1 t2 t3' t4' t5 ha hv hb hr).mono fun e w' ⟨he, n, hw'⟩ => ⟨r, n, he, rfl, double.add_lt hr, hw'⟩

end Go.Proofs.Ytpgaohmmjjgboaa
