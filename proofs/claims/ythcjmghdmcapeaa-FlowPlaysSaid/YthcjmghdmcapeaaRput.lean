/-
  The walk of the reference's Put.
-/
import Derived.Test.YthcjmghdmcapeaaRef
import Derived.Deep.DeepCutAuto
namespace Go.Proofs.Ythcjmghdmcapeaa
open Go.RowKit Go.Maps Go.ChangeShapes

def Own3r (br bi bb : Nat) (i : Nat) : Prop := i = br ∨ i = bi ∨ i = bb

theorem boolsV_set (l : List (Option UInt8)) (i : Nat) (d : UInt8) : boolsV (l.set i (some d)) = (boolsV l).set i (.bool true) := by
  unfold boolsV
  rw [List.map_set]; rfl
theorem bytesV_set (l : List UInt8) (i : Nat) (d : UInt8) : bytesV (l.set i d) = (bytesV l).set i (.int .u8 (d.toNat : Int)) := by
  unfold bytesV
  rw [List.map_set]

section
variable {w : World} {B br bi bb : Nat} {bs : List UInt8} {q : Q} {v : Int}

/-- a byte is taken -/
theorem rput_step (h : RQ w B br bi bb bs q v) {i : Nat} {d : UInt8} (ht : q.takes i = true) {w2 : World} (h2 : w2 = ((w.setCell ⟨bi, i, none⟩ (.bool true)).drew.setCell ⟨bb, i, none⟩ (.int .u8 (d.toNat : Int)))) :
    RQ w2 B br bi bb (bs.set i d) (q.put1 i d) v ∧ Fr (Own3r br bi bb) w w2 := by
  subst h2
  obtain ⟨h1, h2, _⟩ := takes_iff.1 ht
  have hl := Nat.lt_trans h1 (win_lt h.inv)
  have hinv := inv_put1 h.inv i d
  rw [put1_yes ht] at hinv ⊢
  have hap := h.apart
  have f1 : Fr (fun i => i = bi) w (w.setCell ⟨bi, i, none⟩ (.bool true)).drew := (Fr.setCell (S := fun i => i = bi) Fr.refl (.inl rfl) _).drew
  have f2 : Fr (fun i => i = bb) (w.setCell ⟨bi, i, none⟩ (.bool true)).drew ((w.setCell ⟨bi, i, none⟩ (.bool true)).drew.setCell ⟨bb, i, none⟩ (.int .u8 (d.toNat : Int))) := Fr.setCell (S := fun i => i = bb) Fr.refl (.inl rfl) _
  have c2 := heap_set h.is i (.bool true)
  refine ⟨⟨f2.keeps (f1.keeps h.cells (fun e => hap.2.2.2.1 e)) (fun e => hap.2.2.2.2.1 e), ?_, ?_, by simpa using h.len, ?_, h.endAt, hap, hinv⟩, ?_⟩
  · have := f2.keeps (o := _) c2 (fun e => hap.2.2.2.2.2 e)
    rw [this, boolsV_set]
    simp
  · have := heap_set (f1.keeps h.b (fun e => hap.2.2.2.2.2 e.symm)) i (.int .u8 (d.toNat : Int))
    rw [this, bytesV_set]
    simp
  · intro j u hj
    rw [got_set hl] at hj
    rw [List.getElem?_set]
    by_cases hji : j = i
    · subst hji
      rw [if_pos rfl] at hj
      rw [if_pos rfl, if_pos (by have := h.len; have := h.inv.len; omega)]
      exact hj
    · rw [if_neg hji] at hj
      rw [if_neg (fun e => hji e.symm)]
      exact h.got j u hj
  · exact (f1.mono (S' := Own3r br bi bb) (fun i e => .inr (.inl e))).step f2 (fun i e => .inl (.inr (.inr e)))
end

theorem rput_mid {W : World} {B br bi bb : Nat} {bs : List UInt8} {q : Q} {v : Int} (h : RQ W B br bi bb bs q v) {i : Nat} {u : UInt8} (hu : bs[i]? = some u) :
    (W.setCell ⟨bi, i, none⟩ (.bool true)).cell? ⟨br, 4, none⟩ = some (.slice (some ⟨bb, 0, none⟩) (q.size + 1) (q.size + 1)) ∧ (W.setCell ⟨bi, i, none⟩ (.bool true)).cell? ⟨bb, i, none⟩ = some (.int .u8 (u.toNat : Int)) ∧ (W.setCell ⟨bi, i, none⟩ (.bool true)).frozen? ⟨bb, i, none⟩ = false := by
  have f1 : Fr (fun i => i = bi) W (W.setCell ⟨bi, i, none⟩ (.bool true)) := Fr.setCell (S := fun i => i = bi) Fr.refl (.inl rfl) _
  have c := f1.keeps h.cells (fun e => h.apart.2.2.2.1 e)
  have b := f1.keeps h.b (fun e => h.apart.2.2.2.2.2 e.symm)
  refine ⟨cell_of c 4 _ rfl, cell_of b i _ ?_, frozen_of b i⟩
  unfold bytesV
  rw [List.getElem?_toArray, List.getElem?_map, hu]
  rfl

theorem RQ.bAny {w : World} {B br bi bb : Nat} {bs : List UInt8} {q : Q} {v : Int} (h : RQ w B br bi bb bs q v) {i : Nat} (hi : i < q.size + 1) : ∃ u, bs[i]? = some u := ⟨_, List.getElem?_eq_getElem (by rw [h.len]; exact hi)⟩

/-- a string of the first bytes -/
theorem RQ.bString {w : World} {B br bi bb : Nat} {bs : List UInt8} {q : Q} {v : Int} (h : RQ w B br bi bb bs q v) {m : Nat} (hm : m < q.size + 1) : (convert 41 9 (.slice (some ⟨bb, 0, none⟩) m (q.size + 1))).run Try.prog w.drew = .ok (.string ⟨(bs.take m).toArray⟩) w.drew := by
  have e : (bs.take m).length = m := by rw [List.length_take, h.len]; omega
  have := run_convert_bytes_back w.drew 41 9 5 ⟨bb, 0, none⟩ (q.size + 1) (bs.take m) Try.underlying41 Try.underlying5 Try.underlying9 (fun j hj => by
    have hj' : j < bs.length := by rw [List.length_take] at hj; omega
    have e2 : Addr.add ⟨bb, 0, none⟩ j = ⟨bb, j, none⟩ := by unfold Addr.add; split <;> simp_all
    rw [e2, List.getElem_take]
    exact h.bAt (List.getElem?_eq_getElem hj'))
  rw [e] at this
  exact this

theorem RQ.addString {w : World} {B br bi bb : Nat} {bs : List UInt8} {q : Q} {v : Int} (h : RQ w B br bi bb bs q v) {m : Nat} : ∀ W : World, (Op.stringOp .add ⟨q.ready.toArray⟩ ⟨(bs.take m).toArray⟩).run Try.prog W = .ok (.string ⟨(q.ready ++ bs.take m).toArray⟩) W := fun W => by
  have h1 := h.inv.ready
  have h2 := h.inv.size2
  have h3 := h.len
  exact run_string_add_lists (P := Try.prog) W _ _ (by omega) (by rw [List.length_take]; omega)

def RPutPost (w : World) (B br bi bb : Nat) (q : Q) (seq : Nat) (s : List UInt8) (fin : Bool) (e : Ending) (w' : World) : Prop :=
  e = .returned (.bool (decide ((q.put seq s fin).next ≠ q.next))) ∧ ∃ bs' v', RQ w' B br bi bb bs' (q.put seq s fin) v' ∧ Fr (Own3r br bi bb) w w'

set_option maxRecDepth 100000 in
theorem rput_no {w : World} {B br bi bb : Nat} {bs : List UInt8} {q : Q} {v : Int} (h : RQ w B br bi bb bs q v) (seq : Nat) (s : ByteArray) (fin : Bool) (hno : q.ended = true ∨ 65536 < s.size) :
    Calls Try.prog 16 #[.pointer (some ⟨br, 0, none⟩), .int .u32 (seq : Int), .string s, .bool fin] w (RPutPost w B br bi bb q seq s.data.toList fin) := by
  have hp : q.put seq s.data.toList fin = q := by
    unfold Q.put
    rw [if_pos]
    rcases hno with h1 | h1
    · rw [h1]; rfl
    · have : s.data.toList.length = s.size := by rw [Array.length_toList]; rfl
      rw [this, decide_eq_true h1]; simp
  have hpost : ∀ w', w = w' → RPutPost w B br bi bb q seq s.data.toList fin (.returned (.bool false)) w' := by
    rintro w' rfl
    unfold RPutPost
    rw [hp]
    exact ⟨by simp, bs, v, h, Fr.refl⟩
  have HP := Lib.hid hpost
  have c7 := cell_of h.cells 7 _ rfl
  clear hp hpost
  cases he : q.ended
  · rw [he] at c7
    have h2 : 65536 < s.size := by
      rcases hno with h1 | h1
      · rw [he] at h1; cases h1
      · exact h1
    clear hno he
    go_enter Try.func16, Try.ntmps16
    go_wp2_with fail
    go_ret
    exact HP.out _ rfl
  · rw [he] at c7
    clear hno he
    go_enter Try.func16, Try.ntmps16
    go_wp2_with fail
    go_ret
    exact HP.out _ rfl

/-- none is held from x on, as far as k -/
def clrN (q : Q) (x k : Nat) : Bool := (List.range (k - x)).all fun j => (q.got (x + j)).isNone

theorem clrN_zero (q : Q) (x : Nat) : clrN q x x = true := by unfold clrN; simp
theorem clrN_succ {q : Q} {x k : Nat} (h : x ≤ k) : clrN q x (k + 1) = (clrN q x k && (q.got k).isNone) := by
  unfold clrN
  rw [show k + 1 - x = (k - x) + 1 by omega, List.range_succ, List.all_append]
  simp [show x + (k - x) = k by omega]
theorem clrN_end {q : Q} (hi : Inv q) {x : Nat} (h : x ≤ q.size + 1) : clrN q x (q.size + 1) = q.clear x := by
  rw [Bool.eq_iff_iff, clear_iff]
  unfold clrN
  rw [List.all_eq_true]
  constructor
  · intro hh i v hv
    rcases Nat.lt_or_ge i x with h' | h'
    · exact h'
    · exfalso
      have h1 := got_lt hv
      rw [hi.len] at h1
      have := hh (i - x) (List.mem_range.2 (by omega))
      rw [show x + (i - x) = i by omega, hv] at this
      cases this
  · intro hh j hj
    cases hg : q.got (x + j) with
    | none => rfl
    | some v => have := hh _ _ hg; omega

/-- the end is told -/
theorem rfin_step {W : World} {B br bi bb : Nat} {bs : List UInt8} {q : Q} {v : Int} (h : RQ W B br bi bb bs q v) {x : Nat} (h1 : x ≤ q.win) (h2 : q.clear x = true) (hne : q.e = none) :
    RQ ((W.setCell ⟨br, 5, none⟩ (.bool true)).setCell ⟨br, 6, none⟩ (.int .i64 (x : Int))) B br bi bb bs { q with e := some x } (x : Int) ∧ Fr (Own3r br bi bb) W ((W.setCell ⟨br, 5, none⟩ (.bool true)).setCell ⟨br, 6, none⟩ (.int .i64 (x : Int))) := by
  have hinv := inv_fin h.inv x true
  have hf : q.fin x true = { q with e := some x } := by unfold Q.fin; rw [hne, h2, decide_eq_true (by omega)]; rfl
  rw [hf] at hinv
  have f : Fr (fun i => i = br) W ((W.setCell ⟨br, 5, none⟩ (.bool true)).setCell ⟨br, 6, none⟩ (.int .i64 (x : Int))) := Fr.setCell (S := fun i => i = br) (Fr.setCell (S := fun i => i = br) Fr.refl (.inl rfl) _) (.inl rfl) _
  refine ⟨⟨heap_set (heap_set h.cells 5 (.bool true)) 6 (.int .i64 (x : Int)), f.keeps h.is (fun e => h.apart.2.2.2.1 e.symm), f.keeps h.b (fun e => h.apart.2.2.2.2.1 e.symm), h.len, h.got, ?_, h.apart, hinv⟩, f.mono (fun i e => .inl e)⟩
  intro y hy _
  injection hy with hy
  rw [hy]

/-- what holds at a round's head of the first loop -/
def R1 (w wr : World) (B br bi bb : Nat) (q : Q) (seq : Nat) (s : List UInt8) (v : Int) (k : Nat) : Prop :=
  ∃ bs, RQ wr B br bi bb bs (q.putN seq s k) v ∧ Fr (Own3r br bi bb) w wr

theorem RQ.ex {w : World} {B br bi bb : Nat} {bs : List UInt8} {q : Q} {v : Int} (h : RQ w B br bi bb bs q v) : ∃ v', RQ w B br bi bb bs q v' := ⟨v, h⟩

/-- WHILE THE SHIFT GOES ON: the first k are shifted by m -/
structure SQ (W : World) (br bi bb : Nat) (q : Q) (r : List UInt8) (m k : Nat) (H : List (Option UInt8)) (bs : List UInt8) (v : Int) : Prop where
  cells : W.heap[br]? = some (.cells #[.int .u32 (q.next : Int), .int .i64 (q.size : Int), .string ⟨r.toArray⟩, .slice (some ⟨bi, 0, none⟩) (q.size + 1) (q.size + 1), .slice (some ⟨bb, 0, none⟩) (q.size + 1) (q.size + 1), .bool q.e.isSome, .int .i64 v, .bool q.ended] 43 (0, 0))
  is : W.heap[bi]? = some (.cells (boolsV H).toArray 4 (0, 0))
  b : W.heap[bb]? = some (.cells (bytesV bs).toArray 5 (0, 0))
  hl : H.length = q.size + 1
  bl : bs.length = q.size + 1
  hv : ∀ i : Nat, (H[i]?).getD none = if i < k then q.got (i + m) else q.got i
  bv : ∀ (i : Nat) (u : UInt8), (H[i]?).getD none = some u → bs[i]? = some u

section
variable {W W' : World} {br bi bb : Nat} {q : Q} {r : List UInt8} {m k : Nat} {H : List (Option UInt8)} {bs : List UInt8} {v : Int}
theorem SQ.isAt (h : SQ W br bi bb q r m k H bs v) {i : Nat} (hi : i < q.size + 1) : W.cell? ⟨bi, i, none⟩ = some (.bool (if i < k then q.got (i + m) else q.got i).isSome) := by
  refine cell_of h.is i _ ?_
  unfold boolsV
  have e := h.hv i
  rw [List.getElem?_eq_getElem (by rw [h.hl]; exact hi)] at e
  rw [List.getElem?_toArray, List.getElem?_map, List.getElem?_eq_getElem (by rw [h.hl]; exact hi), ← e]
  rfl
theorem SQ.bAt (h : SQ W br bi bb q r m k H bs v) {i : Nat} {u : UInt8} (hi : bs[i]? = some u) : W.cell? ⟨bb, i, none⟩ = some (.int .u8 (u.toNat : Int)) := by
  refine cell_of h.b i _ ?_
  unfold bytesV
  rw [List.getElem?_toArray, List.getElem?_map, hi]
  rfl
theorem SQ.bAny (h : SQ W br bi bb q r m k H bs v) {i : Nat} (hi : i < q.size + 1) : ∃ u, bs[i]? = some u := ⟨_, List.getElem?_eq_getElem (by rw [h.bl]; exact hi)⟩
theorem SQ.new (h : SQ W br bi bb q r m k H bs v) (f : Fr (fun _ => False) W W') : SQ W' br bi bb q r m k H bs v :=
  ⟨f.keeps h.cells (fun e => e), f.keeps h.is (fun e => e), f.keeps h.b (fun e => e), h.hl, h.bl, h.hv, h.bv⟩

theorem sq_start {B : Nat} (h : RQ W B br bi bb bs q v) : SQ (W.setCell ⟨br, 2, none⟩ (.string ⟨r.toArray⟩)) br bi bb q r m 0 q.h bs v := by
  have f : Fr (fun i => i = br) W (W.setCell ⟨br, 2, none⟩ (.string ⟨r.toArray⟩)) := Fr.setCell (S := fun i => i = br) Fr.refl (.inl rfl) _
  refine ⟨heap_set h.cells 2 _, f.keeps h.is (fun e => h.apart.2.2.2.1 e.symm), f.keeps h.b (fun e => h.apart.2.2.2.2.1 e.symm), h.inv.len, h.len, fun i => rfl, h.got⟩

theorem set_getD (hk : k < H.length) (o : Option UInt8) (i : Nat) : ((H.set k o)[i]?).getD none = if i = k then o else (H[i]?).getD none := by
  rw [List.getElem?_set]
  by_cases h : k = i
  · subst h; simp [hk]
  · rw [if_neg h, if_neg (fun e => h e.symm)]

theorem sq_none (h : SQ W br bi bb q r m k H bs v) (hap : br ≠ bi ∧ br ≠ bb ∧ bi ≠ bb) (hk : k < q.size + 1) (hg : q.got (k + m) = none) : SQ (W.setCell ⟨bi, k, none⟩ (.bool false)) br bi bb q r m (k + 1) (H.set k none) bs v := by
  have f : Fr (fun i => i = bi) W (W.setCell ⟨bi, k, none⟩ (.bool false)) := Fr.setCell (S := fun i => i = bi) Fr.refl (.inl rfl) _
  have hkl : k < H.length := by rw [h.hl]; exact hk
  refine ⟨f.keeps h.cells hap.1, ?_, f.keeps h.b (fun e => hap.2.2 e.symm), by simpa using h.hl, h.bl, ?_, ?_⟩
  · rw [heap_set h.is k (.bool false)]
    unfold boolsV
    rw [List.map_set]; simp
  · intro i
    rw [set_getD hkl, h.hv i]
    by_cases hi : i = k
    · subst hi; rw [if_pos rfl, if_pos (by omega), hg]
    · rw [if_neg hi]
      by_cases h1 : i < k
      · rw [if_pos h1, if_pos (by omega)]
      · rw [if_neg h1, if_neg (by omega)]
  · intro i u hu
    rw [set_getD hkl] at hu
    by_cases hi : i = k
    · rw [if_pos hi] at hu; cases hu
    · rw [if_neg hi] at hu; exact h.bv i u hu

theorem sq_some (h : SQ W br bi bb q r m k H bs v) (hap : br ≠ bi ∧ br ≠ bb ∧ bi ≠ bb) (hk : k < q.size + 1) {u : UInt8} (hg : q.got (k + m) = some u) :
    SQ ((W.setCell ⟨bi, k, none⟩ (.bool true)).setCell ⟨bb, k, none⟩ (.int .u8 (u.toNat : Int))) br bi bb q r m (k + 1) (H.set k (some u)) (bs.set k u) v := by
  have f1 : Fr (fun i => i = bi) W (W.setCell ⟨bi, k, none⟩ (.bool true)) := Fr.setCell (S := fun i => i = bi) Fr.refl (.inl rfl) _
  have f2 : Fr (fun i => i = bb) (W.setCell ⟨bi, k, none⟩ (.bool true)) ((W.setCell ⟨bi, k, none⟩ (.bool true)).setCell ⟨bb, k, none⟩ (.int .u8 (u.toNat : Int))) := Fr.setCell (S := fun i => i = bb) Fr.refl (.inl rfl) _
  have hkl : k < H.length := by rw [h.hl]; exact hk
  refine ⟨f2.keeps (f1.keeps h.cells hap.1) hap.2.1, ?_, ?_, by simpa using h.hl, by simpa using h.bl, ?_, ?_⟩
  · have := f2.keeps (heap_set h.is k (.bool true)) hap.2.2
    rw [this, boolsV_set]; simp
  · have := heap_set (f1.keeps h.b (fun e => hap.2.2 e.symm)) k (.int .u8 (u.toNat : Int))
    rw [this, bytesV_set]; simp
  · intro i
    rw [set_getD hkl, h.hv i]
    by_cases hi : i = k
    · subst hi; rw [if_pos rfl, if_pos (by omega), hg]
    · rw [if_neg hi]
      by_cases h1 : i < k
      · rw [if_pos h1, if_pos (by omega)]
      · rw [if_neg h1, if_neg (by omega)]
  · intro i u' hu
    rw [set_getD hkl] at hu
    rw [List.getElem?_set]
    by_cases hi : i = k
    · subst hi
      rw [if_pos rfl] at hu
      rw [if_pos rfl, if_pos (by rw [h.bl]; exact hk)]
      exact hu
    · rw [if_neg hi] at hu
      rw [if_neg (fun e => hi e.symm)]
      exact h.bv i u' hu

theorem sq_mid (h : SQ W br bi bb q r m k H bs v) (hap : br ≠ bi ∧ br ≠ bb ∧ bi ≠ bb) (hk : k < q.size + 1) (o : Bool) :
    (W.setCell ⟨bi, k, none⟩ (.bool o)).cell? ⟨br, 3, none⟩ = some (.slice (some ⟨bi, 0, none⟩) (q.size + 1) (q.size + 1)) ∧ (W.setCell ⟨bi, k, none⟩ (.bool o)).cell? ⟨br, 4, none⟩ = some (.slice (some ⟨bb, 0, none⟩) (q.size + 1) (q.size + 1)) ∧ (W.setCell ⟨bi, k, none⟩ (.bool o)).cell? ⟨bi, k, none⟩ = some (.bool o) ∧
    (∀ j u, bs[j]? = some u → (W.setCell ⟨bi, k, none⟩ (.bool o)).cell? ⟨bb, j, none⟩ = some (.int .u8 (u.toNat : Int))) ∧ (W.setCell ⟨bi, k, none⟩ (.bool o)).frozen? ⟨bb, k, none⟩ = false := by
  have f : Fr (fun i => i = bi) W (W.setCell ⟨bi, k, none⟩ (.bool o)) := Fr.setCell (S := fun i => i = bi) Fr.refl (.inl rfl) _
  have c := f.keeps h.cells hap.1
  have b := f.keeps h.b (fun e => hap.2.2 e.symm)
  refine ⟨cell_of c 3 _ rfl, cell_of c 4 _ rfl, cell_of (heap_set h.is k (.bool o)) k _ ?_, fun j u hj => cell_of b j _ ?_, frozen_of b k⟩
  · rw [Array.getElem?_setIfInBounds]
    unfold boolsV
    simp [h.hl, hk]
  · unfold bytesV
    rw [List.getElem?_toArray, List.getElem?_map, hj]
    rfl

/-- the byte that moves -/
theorem SQ.src (h : SQ W br bi bb q r m k H bs v) {u : UInt8} (hg : q.got (k + m) = some u) : bs[k + m]? = some u := by
  refine h.bv _ _ ?_
  rw [h.hv, if_neg (by omega)]
  exact hg

theorem sq_end (hi : Inv q) (hm : m ≤ q.h.length) (h : SQ W br bi bb q r m (q.size + 1) H bs v) : H = (q.pop m).h := by
  apply List.ext_getElem?
  intro i
  have hlen : (q.pop m).h.length = q.size + 1 := by
    show (q.h.drop m ++ List.replicate m none).length = _
    rw [List.length_append, List.length_drop, List.length_replicate, hi.len]
    rw [hi.len] at hm; omega
  rcases Nat.lt_or_ge i (q.size + 1) with h1 | h1
  · have e1 := h.hv i
    rw [if_pos h1] at e1
    have e2 := got_pop hm i
    unfold Q.got at e2
    rw [List.getElem?_eq_getElem (by rw [h.hl]; exact h1)] at e1 ⊢
    rw [List.getElem?_eq_getElem (by rw [hlen]; exact h1)] at e2 ⊢
    simp only [Option.getD_some] at e1 e2
    rw [e1, e2]; rfl
  · rw [List.getElem?_eq_none (by rw [h.hl]; exact h1), List.getElem?_eq_none (by rw [hlen]; exact h1)]
theorem lead_bytes {l : List (Option UInt8)} {bs : List UInt8} (hg : ∀ (i : Nat) (u : UInt8), (l[i]?).getD none = some u → bs[i]? = some u) : ∀ m, m ≤ lead l → (l.take m).filterMap id = bs.take m := by
  intro m hm
  induction m with
  | zero => simp
  | succ m ih =>
    obtain ⟨u, hu⟩ := lead_get (l := l) (i := m) (by omega)
    rw [List.take_add_one, List.take_add_one, List.filterMap_append, ih (by omega), hu, hg m u (by rw [hu]; rfl)]
    rfl

/-- the shift is done: next, end -/
theorem sq_close {B : Nat} {w0 : World} {bk : List UInt8} (h0 : RQ w0 B br bi bb bk q v) (hm : lead q.h = m) (h : SQ W br bi bb q (q.ready ++ bk.take m) m (q.size + 1) H bs v) (hne : q.ended = false) :
    RQ ((W.setCell ⟨br, 0, none⟩ (.int .u32 (((q.next : Int) + (m : Int)) % 4294967296))).setCell ⟨br, 6, none⟩ (.int .i64 (wrap64 (v - (m : Int))))) B br bi bb bs (q.pop m) (wrap64 (v - (m : Int))) := by
  have hi := h0.inv
  have hml : m ≤ q.h.length := by rw [← hm]; exact lead_le _
  have hH := sq_end hi hml h
  have f : Fr (fun i => i = br) W ((W.setCell ⟨br, 0, none⟩ (.int .u32 (((q.next : Int) + (m : Int)) % 4294967296))).setCell ⟨br, 6, none⟩ (.int .i64 (wrap64 (v - (m : Int))))) := Fr.setCell (S := fun i => i = br) (Fr.setCell (S := fun i => i = br) Fr.refl (.inl rfl) _) (.inl rfl) _
  have hap := h0.apart
  refine ⟨?_, ?_, f.keeps h.b (fun e => hap.2.2.2.2.1 e.symm), h.bl, ?_, ?_, hap, inv_pop hi (by omega)⟩
  · have h1 := heap_set (heap_set h.cells 0 (.int .u32 (((q.next : Int) + (m : Int)) % 4294967296))) 6 (.int .i64 (wrap64 (v - (m : Int))))
    rw [h1]
    have e1 : (((q.next : Int) + (m : Int)) % 4294967296) = (((q.pop m).next : Nat) : Int) := by
      show _ = (((q.next + m) % M32 : Nat) : Int)
      unfold M32; omega
    have e2 : (q.pop m).e.isSome = q.e.isSome := by
      show (q.e.map (· - m)).isSome = _
      cases q.e <;> rfl
    have e3 : (q.pop m).ready = q.ready ++ bk.take m := by
      show q.ready ++ (q.h.take m).filterMap id = _
      rw [lead_bytes h0.got m (by omega)]
    rw [e1, e2, e3]
    rfl
  · have := f.keeps h.is (fun e => hap.2.2.2.1 e.symm)
    rw [this, hH]
  · intro i u hg
    exact h.bv i u (by rw [hH]; exact hg)
  · intro x hx _
    have hx' : q.e.map (· - m) = some x := hx
    cases he : q.e with
    | none => rw [he] at hx'; cases hx'
    | some y =>
      rw [he] at hx'
      simp only [Option.map_some, Option.some.injEq] at hx'
      have h1 := h0.endAt y he hne
      have h2 := hi.fin1 y he
      have h3 := hi.size2
      have h4 : q.win ≤ q.size := by unfold Q.win; omega
      have h5 : m ≤ y := by
        rcases Nat.eq_zero_or_pos m with h6 | h6
        · omega
        · obtain ⟨u, hu⟩ := lead_get (l := q.h) (i := m - 1) (by omega)
          have := hi.fin2 y (m - 1) u he (by unfold Q.got; rw [hu]; rfl)
          omega
      rw [h1]
      unfold wrap64
      omega

/-- the end is next -/
theorem rclose_step {B : Nat} (h : RQ W B br bi bb bs q v) (he : q.e = some 0) :
    RQ ((W.setCell ⟨br, 7, none⟩ (.bool true)).setCell ⟨br, 0, none⟩ (.int .u32 (((q.next : Int) + 1) % 4294967296))) B br bi bb bs q.close v := by
  have hcl : q.close = { q with ended := true, next := (q.next + 1) % M32 } := by unfold Q.close; rw [he]; rfl
  have hinv := inv_close h.inv
  have f : Fr (fun i => i = br) W ((W.setCell ⟨br, 7, none⟩ (.bool true)).setCell ⟨br, 0, none⟩ (.int .u32 (((q.next : Int) + 1) % 4294967296))) := Fr.setCell (S := fun i => i = br) (Fr.setCell (S := fun i => i = br) Fr.refl (.inl rfl) _) (.inl rfl) _
  rw [hcl] at hinv ⊢
  have hap := h.apart
  refine ⟨?_, f.keeps h.is (fun e => hap.2.2.2.1 e.symm), f.keeps h.b (fun e => hap.2.2.2.2.1 e.symm), h.len, h.got, (fun x _ hne => by cases hne), hap, hinv⟩
  have h1 := heap_set (heap_set h.cells 7 (.bool true)) 0 (.int .u32 (((q.next : Int) + 1) % 4294967296))
  have e1 : (((q.next : Int) + 1) % 4294967296) = (((q.next + 1) % M32 : Nat) : Int) := by unfold M32; omega
  rw [e1] at h1 ⊢
  exact h1
theorem rput_end {B : Nat} {w W : World} {q q5 q6 : Q} {bs : List UInt8} {v : Int} {seq : Nat} {s : List UInt8} {fin : Bool} {n : Int} (hput : q.put seq s fin = q5.close) (hc : q5.close = q6) (h : RQ W B br bi bb bs q6 v) (f : Fr (Own3r br bi bb) w W)
    (hn : ((q6.next : Nat) : Int) = n) : RPutPost w B br bi bb q seq s fin (.returned (.bool (n != (q.next : Int)))) W := by
  subst hn
  rw [hc] at hput
  unfold RPutPost
  rw [hput, ne_int]
  exact ⟨rfl, bs, v, h, f⟩
end

end Go.Proofs.Ythcjmghdmcapeaa
