/-
  A timer's numbers as plain data, what a sample and a backoff make of them; the program's methods and the reference's do just that.
-/
import Derived.Test.YtpgaohmmjjgboaaModel
import Derived.Test.YtpgaohmmjjgboaaWorks
namespace Go.Proofs.Ytpgaohmmjjgboaa
open Go.RowKit Ieee Fl

/-- no numbers yet; or the smooth time and the deviation -/
def Tk (w : World) (b : Nat) (ty : TypeId) (L M : Int) (st : Option (Nat × Nat)) (v : Int) : Prop :=
  ∃ s d, Tm w b ty L M s d v ∧ match st with
    | none => IsNan s ∧ IsNan d
    | some p => s = p.1 ∧ d = p.2
/-- the numbers are within their bounds -/
def OkS (st : Option (Nat × Nat)) : Prop := ∀ p, st = some p → Bd p.1 ∧ Bd p.2

def half (a : Nat) : Nat := (double.div a TWO).getD 0
/-- what a sample makes of the numbers -/
def smp (st : Option (Nat × Nat)) (n : Nat) : Option (Nat × Nat) :=
  if 4294967296 < n then st else match st with
    | none => some (ofN n, half (ofN n))
    | some p => some (mixF p.1 (ofN n) Q875, mixF p.2 (subR p.1 (ofN n)) Q75)
/-- the value behind it -/
def smpV (L M : Int) (st : Option (Nat × Nat)) (v : Int) (n : Nat) : Int :=
  if 4294967296 < n then v else match smp st n with
    | none => v
    | some p => clamp L M ((RV (valR p.1 p.2) / ONE : Nat) : Int)

theorem half_facts {a : Nat} (h : Bd a) : double.div a TWO = some (half a) ∧ Bd (half a) := by
  obtain ⟨d', h1, h2⟩ := half_model (Bd_lt h)
  have e : half a = d' := by unfold half; rw [h1]; rfl
  rw [e]
  unfold Bd at *
  exact ⟨h1, by omega⟩

theorem OkS_smp {st : Option (Nat × Nat)} (h : OkS st) (n : Nat) : OkS (smp st n) := by
  unfold smp
  by_cases hn : 4294967296 < n
  · rw [if_pos hn]; exact h
  · rw [if_neg hn]
    have hb := Bd_ofN (n := n) (by omega)
    cases st with
    | none => intro p hp; cases hp; exact ⟨hb, (half_facts hb).2⟩
    | some q =>
      obtain ⟨h1, h2⟩ := h q rfl
      intro p hp; cases hp
      exact ⟨Bd_mix875 h1 hb, Bd_mix75 h2 (Bd_sub h1 hb)⟩

theorem clamp_le {L M : Int} (h : L ≤ M) (n : Int) : L ≤ clamp L M n ∧ clamp L M n ≤ M := by unfold clamp; omega

theorem smpV_bd {L M : Int} (h : L ≤ M) {st : Option (Nat × Nat)} {v : Int} (hv : L ≤ v ∧ v ≤ M) (n : Nat) : L ≤ smpV L M st v n ∧ smpV L M st v n ≤ M := by
  unfold smpV
  split
  · exact hv
  · split
    · exact hv
    · exact clamp_le h _

theorem sample_tk (w : World) (b : Nat) (L M : Int) (st : Option (Nat × Nat)) (v : Int) (n : Nat) (ht : Tk w b 54 L M st v) (hst : OkS st) :
    Calls Try.prog 13 #[.pointer (some ⟨b, 0, none⟩), .int .u64 (n : Int)] w fun e w' => e = .returned (.tuple #[]) ∧ Tk w' b 54 L M (smp st n) (smpV L M st v n) ∧ w.grownBy w' (some b) := by
  obtain ⟨s, d, hT, hk⟩ := ht
  unfold smpV
  by_cases hn : 4294967296 < n
  · have e1 : smp st n = st := by unfold smp; rw [if_pos hn]
    rw [e1, if_pos hn]
    refine (sample_late w b n (by omega)).mono fun e w' ⟨he, hg⟩ => ⟨he, ⟨s, d, hT.kept hg (by simp), hk⟩, ⟨hg.os, hg.tape, hg.output, hg.size, fun i hi _ => hg.block i hi (by simp)⟩⟩
  · rw [if_neg hn]
    have hb := Bd_ofN (n := n) (by omega)
    have hf := fx_eq n (by omega)
    cases st with
    | none =>
      obtain ⟨h1, h2⟩ := hk
      obtain ⟨hh1, hh2⟩ := half_facts hb
      have e1 : smp none n = some (ofN n, half (ofN n)) := by unfold smp; rw [if_neg hn]
      rw [e1]
      have h := sample_first w b L M s d v n hT (by omega) (by omega) h1.1 h1.2 (half (ofN n)) (by rw [hf]; exact hh1) (Bd_lt hh2) _ (by rw [hf]; exact (val_model hb hh2).1)
      rw [hf] at h
      exact h.mono fun e w' ⟨he, h3, h4⟩ => ⟨he, ⟨_, _, h3, rfl, rfl⟩, h4⟩
    | some p =>
      obtain ⟨rfl, rfl⟩ := hk
      obtain ⟨h1, h2⟩ := hst p rfl
      have e1 : smp (some p) n = some (mixF p.1 (ofN n) Q875, mixF p.2 (subR p.1 (ofN n)) Q75) := by unfold smp; rw [if_neg hn]
      rw [e1]
      have b1 := Bd_mix875 h1 hb
      have b2 := Bd_mix75 h2 (Bd_sub h1 hb)
      have h := sample_later w b L M p.1 p.2 v n hT (by omega) (by omega) (Bd_lt h1) (Bd_lt h2) (by rw [hf]; exact Bd_lt hb) _ _ (by rw [hf]) (by rw [hf]) (Bd_lt b2) _ (val_model b1 b2).1
      exact h.mono fun e w' ⟨he, h3, h4⟩ => ⟨he, ⟨_, _, h3, rfl, rfl⟩, h4⟩

theorem rsample_tk (w : World) (b : Nat) (L M : Int) (st : Option (Nat × Nat)) (v : Int) (n : Nat) (ht : Tk w b 38 L M st v) (hst : OkS st) :
    Calls Try.prog 14 #[.pointer (some ⟨b, 0, none⟩), .int .u64 (n : Int)] w fun e w' => e = .returned (.tuple #[]) ∧ Tk w' b 38 L M (smp st n) (smpV L M st v n) ∧ w.grownBy w' (some b) := by
  obtain ⟨s, d, hT, hk⟩ := ht
  unfold smpV
  by_cases hn : 4294967296 < n
  · have e1 : smp st n = st := by unfold smp; rw [if_pos hn]
    rw [e1, if_pos hn]
    refine (rsample_late w b n (by omega)).mono fun e w' ⟨he, hg⟩ => ⟨he, ⟨s, d, hg ▸ hT, hk⟩, hg ▸ World.grownBy.refl _ _⟩
  · rw [if_neg hn]
    have hb := Bd_ofN (n := n) (by omega)
    have hf := fx_eq n (by omega)
    cases st with
    | none =>
      obtain ⟨h1, h2⟩ := hk
      obtain ⟨hh1, hh2⟩ := half_facts hb
      have e1 : smp none n = some (ofN n, half (ofN n)) := by unfold smp; rw [if_neg hn]
      rw [e1]
      have h := rsample_first w b L M s d v n hT (by omega) (by omega) h1.1 (half (ofN n)) (by rw [hf]; exact hh1) (Bd_lt hh2) _ (by rw [hf]; exact (val_model hb hh2).1)
      rw [hf] at h
      exact h.mono fun e w' ⟨he, h3, h4⟩ => ⟨he, ⟨_, _, h3, rfl, rfl⟩, h4⟩
    | some p =>
      obtain ⟨rfl, rfl⟩ := hk
      obtain ⟨h1, h2⟩ := hst p rfl
      have e1 : smp (some p) n = some (mixF p.1 (ofN n) Q875, mixF p.2 (subR p.1 (ofN n)) Q75) := by unfold smp; rw [if_neg hn]
      rw [e1]
      have b1 := Bd_mix875 h1 hb
      have b2 := Bd_mix75 h2 (Bd_sub h1 hb)
      have h := rsample_later w b L M p.1 p.2 v n hT (by omega) (by omega) (Bd_lt h1) (Bd_lt h2) (by rw [hf]; exact Bd_lt hb) _ _ (by rw [hf]) (by rw [hf]) (Bd_lt b2) _ (val_model b1 b2).1
      exact h.mono fun e w' ⟨he, h3, h4⟩ => ⟨he, ⟨_, _, h3, rfl, rfl⟩, h4⟩

theorem backoff_tk (w : World) (b : Nat) (L M : Int) (st : Option (Nat × Nat)) (v : Int) (ht : Tk w b 54 L M st v) (hv0 : 0 ≤ v) (hv : v ≤ 4294967296) :
    Calls Try.prog 15 #[.pointer (some ⟨b, 0, none⟩)] w fun e w' => e = .returned (.tuple #[]) ∧ Tk w' b 54 L M st (clamp L M (2 * v)) ∧ w.grownBy w' (some b) := by
  obtain ⟨s, d, hT, hk⟩ := ht
  exact (backoff_any w b L M s d v hT hv0 hv).mono fun e w' ⟨he, h1, h2⟩ => ⟨he, ⟨s, d, h1, hk⟩, h2⟩

theorem rbackoff_tk (w : World) (b : Nat) (L M : Int) (st : Option (Nat × Nat)) (v : Int) (ht : Tk w b 38 L M st v) (hL : 1 ≤ L) (hv0 : L ≤ v) (hv : v ≤ 4294967296) :
    Calls Try.prog 16 #[.pointer (some ⟨b, 0, none⟩)] w fun e w' => e = .returned (.tuple #[]) ∧ Tk w' b 38 L M st (clamp L M (2 * v)) ∧ w.grownBy w' (some b) := by
  obtain ⟨s, d, hT, hk⟩ := ht
  have e1 : clamp L M (2 * v) = min (2 * v) M := by unfold clamp; omega
  rw [e1]
  exact (rbackoff_any w b L M s d v hT (by omega) hv).mono fun e w' ⟨he, h1, h2⟩ => ⟨he, ⟨s, d, h1, hk⟩, h2⟩

theorem Tk.kept {w w' : World} {b ty L M st v} {row : Option Nat} (h : Tk w b ty L M st v) (hg : w.grownBy w' row) (hr : some b ≠ row) : Tk w' b ty L M st v := by
  obtain ⟨s, d, hT, hk⟩ := h
  exact ⟨s, d, hT.kept hg hr, hk⟩
theorem Tk.drewN {w : World} {b ty L M st v} (h : Tk w b ty L M st v) (n : Nat) : Tk (w.drewN n) b ty L M st v := h

end Go.Proofs.Ytpgaohmmjjgboaa
