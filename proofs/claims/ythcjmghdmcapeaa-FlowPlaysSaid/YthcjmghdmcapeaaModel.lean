/-
  A queue of bytes that come, as plain data: what is ready, what is held so far behind the next number, the end. Both texts, the program's and the reference's, do just this.
-/
namespace Go.Proofs.Ythcjmghdmcapeaa

/-- how many numbers there are -/
def M32 : Nat := 4294967296

structure Q where
  next : Nat
  size : Nat
  ready : List UInt8
  h : List (Option UInt8)
  e : Option Nat
  ended : Bool

/-- how far behind the next number -/
def Q.pos (q : Q) (k : Nat) : Nat := (k + (M32 - q.next)) % M32
def Q.win (q : Q) : Nat := q.size - q.ready.length
def Q.window (q : Q) : Nat := if q.ended then 0 else q.win
/-- what is held so far behind -/
def Q.got (q : Q) (i : Nat) : Option UInt8 := (q.h[i]?).getD none
/-- within the end, if there is one -/
def Q.within (q : Q) (i : Nat) : Bool := match q.e with
  | none => true
  | some x => decide (i < x)
def Q.takes (q : Q) (i : Nat) : Bool := decide (i < q.win) && (q.got i).isNone && q.within i
def Q.put1 (q : Q) (i : Nat) (d : UInt8) : Q := if q.takes i then { q with h := q.h.set i (some d) } else q
/-- behind so many bytes -/
def Q.putN (q : Q) (seq : Nat) (s : List UInt8) : Nat → Q
  | 0 => q
  | k + 1 => match s[k]? with
    | some d => (q.putN seq s k).put1 (q.pos ((seq + k) % M32)) d
    | none => q.putN seq s k
/-- is nothing held so far behind, or further? -/
def Q.clear (q : Q) (x : Nat) : Bool := (q.h.drop x).all fun o => o.isNone
def Q.fin (q : Q) (x : Nat) (fin : Bool) : Q := if fin && q.e.isNone && decide (x < q.win + 1) && q.clear x then { q with e := some x } else q
def lead : List (Option UInt8) → Nat
  | some _ :: r => lead r + 1
  | _ => 0
def Q.pop (q : Q) (n : Nat) : Q :=
  { q with next := (q.next + n) % M32, ready := q.ready ++ (q.h.take n).filterMap id, h := q.h.drop n ++ List.replicate n none, e := q.e.map (· - n) }
def Q.close (q : Q) : Q := if q.e = some 0 then { q with ended := true, next := (q.next + 1) % M32 } else q
def Q.mid (q : Q) (seq : Nat) (s : List UInt8) (fin : Bool) : Q := (q.putN seq s s.length).fin (q.pos ((seq + s.length) % M32)) fin
def Q.put (q : Q) (seq : Nat) (s : List UInt8) (fin : Bool) : Q :=
  if q.ended || decide (65536 < s.length) then q else ((q.mid seq s fin).pop (lead (q.mid seq s fin).h)).close
def Q.read (q : Q) (n : Nat) : Q := { q with ready := q.ready.drop n }
def Q.held (q : Q) : Nat := q.h.countP fun o => o.isSome

/-- what holds of a queue always -/
structure Inv (q : Q) : Prop where
  next : q.next < M32
  size1 : 1 ≤ q.size
  size2 : q.size ≤ 65536
  ready : q.ready.length ≤ q.size
  len : q.h.length = q.size + 1
  held : ∀ i v, q.got i = some v → i < q.win
  fin1 : ∀ x, q.e = some x → x ≤ q.win
  fin2 : ∀ x i v, q.e = some x → q.got i = some v → i < x

theorem got_set {q : Q} {i : Nat} {d : UInt8} (hi : i < q.h.length) (j : Nat) : Q.got { q with h := q.h.set i (some d) } j = if j = i then some d else q.got j := by
  unfold Q.got
  simp only [List.getElem?_set]
  by_cases h : i = j
  · subst h; simp [hi]
  · rw [if_neg h, if_neg (fun e => h e.symm)]

theorem got_lt {q : Q} {i : Nat} {v : UInt8} (h : q.got i = some v) : i < q.h.length := by
  unfold Q.got at h
  rcases Nat.lt_or_ge i q.h.length with h' | h'
  · exact h'
  · rw [List.getElem?_eq_none h'] at h; cases h

theorem takes_iff {q : Q} {i : Nat} : q.takes i = true ↔ i < q.win ∧ q.got i = none ∧ (∀ x, q.e = some x → i < x) := by
  unfold Q.takes Q.within
  cases he : q.e <;> simp [Bool.and_eq_true, and_assoc]

theorem win_lt {q : Q} (h : Inv q) : q.win < q.h.length := by
  have := h.len; unfold Q.win; omega

theorem inv_put1 {q : Q} (h : Inv q) (i : Nat) (d : UInt8) : Inv (q.put1 i d) := by
  unfold Q.put1
  by_cases ht : q.takes i = true
  · rw [if_pos ht]
    obtain ⟨h1, h2, h3⟩ := takes_iff.1 ht
    have hl : i < q.h.length := Nat.lt_trans h1 (win_lt h)
    refine ⟨h.next, h.size1, h.size2, h.ready, by simpa using h.len, ?_, h.fin1, ?_⟩
    · intro j v hj
      rw [got_set hl] at hj
      by_cases hji : j = i
      · subst hji; exact h1
      · rw [if_neg hji] at hj; exact h.held j v hj
    · intro x j v hx hj
      rw [got_set hl] at hj
      by_cases hji : j = i
      · subst hji; exact h3 x hx
      · rw [if_neg hji] at hj; exact h.fin2 x j v hx hj
  · rw [if_neg ht]; exact h

theorem putN_same (q : Q) (seq : Nat) (s : List UInt8) (k : Nat) : (q.putN seq s k).next = q.next ∧ (q.putN seq s k).size = q.size ∧ (q.putN seq s k).ready = q.ready ∧ (q.putN seq s k).e = q.e ∧ (q.putN seq s k).ended = q.ended := by
  induction k with
  | zero => exact ⟨rfl, rfl, rfl, rfl, rfl⟩
  | succ k ih =>
    unfold Q.putN
    split
    · unfold Q.put1
      split
      · exact ih
      · exact ih
    · exact ih

theorem inv_putN {q : Q} (h : Inv q) (seq : Nat) (s : List UInt8) (k : Nat) : Inv (q.putN seq s k) := by
  induction k with
  | zero => exact h
  | succ k ih =>
    unfold Q.putN
    split
    · exact inv_put1 ih _ _
    · exact ih

theorem putN_succ {q : Q} {seq : Nat} {s : List UInt8} {k : Nat} {d : UInt8} (h : s[k]? = some d) : q.putN seq s (k + 1) = (q.putN seq s k).put1 (q.pos ((seq + k) % M32)) d := by
  rw [Q.putN, h]

theorem clear_iff {q : Q} {x : Nat} : q.clear x = true ↔ ∀ i v, q.got i = some v → i < x := by
  unfold Q.clear Q.got
  rw [List.all_eq_true]
  constructor
  · intro h i v hi
    rcases Nat.lt_or_ge i x with h' | h'
    · exact h'
    · exfalso
      have hm : some v ∈ q.h.drop x := by
        rw [List.mem_iff_getElem?]
        refine ⟨i - x, ?_⟩
        rw [List.getElem?_drop, show x + (i - x) = i by omega]
        cases hg : q.h[i]? with
        | none => rw [hg] at hi; cases hi
        | some o => rw [hg] at hi; simp at hi; rw [hi]
      have := h _ hm
      simp at this
  · intro h o ho
    rw [List.mem_iff_getElem?] at ho
    obtain ⟨j, hj⟩ := ho
    rw [List.getElem?_drop] at hj
    cases o with
    | none => rfl
    | some v =>
      have := h (x + j) v (by rw [hj]; rfl)
      omega

theorem inv_fin {q : Q} (h : Inv q) (x : Nat) (fin : Bool) : Inv (q.fin x fin) := by
  unfold Q.fin
  split
  · rename_i hc
    simp only [Bool.and_eq_true, decide_eq_true_iff] at hc
    obtain ⟨⟨⟨_, _⟩, h2⟩, h3⟩ := hc
    refine ⟨h.next, h.size1, h.size2, h.ready, h.len, h.held, ?_, ?_⟩
    · intro y hy
      simp only [Option.some.injEq] at hy
      subst hy
      show x ≤ q.win
      omega
    · intro y i v hy hg
      simp only [Option.some.injEq] at hy
      subst hy
      exact clear_iff.1 h3 i v hg
  · exact h

theorem fin_same (q : Q) (x : Nat) (fin : Bool) : (q.fin x fin).next = q.next ∧ (q.fin x fin).size = q.size ∧ (q.fin x fin).ready = q.ready ∧ (q.fin x fin).h = q.h ∧ (q.fin x fin).ended = q.ended := by
  unfold Q.fin
  split <;> exact ⟨rfl, rfl, rfl, rfl, rfl⟩

theorem inv_mid {q : Q} (h : Inv q) (seq : Nat) (s : List UInt8) (fin : Bool) : Inv (q.mid seq s fin) := inv_fin (inv_putN h _ _ _) _ _
theorem mid_same (q : Q) (seq : Nat) (s : List UInt8) (fin : Bool) : (q.mid seq s fin).next = q.next ∧ (q.mid seq s fin).size = q.size ∧ (q.mid seq s fin).ready = q.ready ∧ (q.mid seq s fin).ended = q.ended := by
  unfold Q.mid
  have h1 := fin_same (q.putN seq s s.length) (q.pos ((seq + s.length) % M32)) fin
  have h2 := putN_same q seq s s.length
  exact ⟨h1.1.trans h2.1, h1.2.1.trans h2.2.1, h1.2.2.1.trans h2.2.2.1, h1.2.2.2.2.trans h2.2.2.2.2⟩

/- WHAT IS NEXT IS READY -/
theorem lead_le (l : List (Option UInt8)) : lead l ≤ l.length := by
  induction l with
  | nil => exact Nat.le_refl _
  | cons o r ih => cases o <;> simp only [lead, List.length_cons] <;> omega
theorem lead_get {l : List (Option UInt8)} {i : Nat} (h : i < lead l) : ∃ v, l[i]? = some (some v) := by
  induction l generalizing i with
  | nil => simp [lead] at h
  | cons o r ih =>
    cases o with
    | none => simp [lead] at h
    | some v =>
      cases i with
      | zero => exact ⟨v, rfl⟩
      | succ i => simp only [lead] at h; obtain ⟨u, hu⟩ := ih (i := i) (by omega); exact ⟨u, by simpa using hu⟩
theorem lead_end {l : List (Option UInt8)} : (l[lead l]?).getD none = none := by
  induction l with
  | nil => rfl
  | cons o r ih =>
    cases o with
    | none => rfl
    | some v => simp only [lead]; simpa using ih

theorem got_pop {q : Q} {n : Nat} (hn : n ≤ q.h.length) (i : Nat) : (q.pop n).got i = q.got (i + n) := by
  unfold Q.pop Q.got
  dsimp only
  rw [List.getElem?_append]
  by_cases h : i < (q.h.drop n).length
  · rw [if_pos h, List.getElem?_drop, Nat.add_comm]
  · rw [if_neg h]
    rw [List.length_drop] at h
    rw [List.getElem?_eq_none (show q.h.length ≤ i + n by omega)]
    rw [List.getElem?_replicate]
    split <;> rfl

theorem ready_pop {q : Q} {n : Nat} (hn : n ≤ lead q.h) : ((q.h.take n).filterMap id).length = n := by
  have h : ∀ (l : List (Option UInt8)) (n : Nat), n ≤ lead l → ((l.take n).filterMap id).length = n := by
    intro l
    induction l with
    | nil => intro n hn; simp [lead] at hn; subst hn; rfl
    | cons o r ih =>
      intro n hn
      cases n with
      | zero => rfl
      | succ n =>
        cases o with
        | none => simp [lead] at hn
        | some v => simp only [lead] at hn; simp [ih n (by omega)]
  exact h _ _ hn

theorem pop_zero (q : Q) (h : q.next < M32) : q.pop 0 = q := by
  unfold Q.pop
  cases q
  simp only [Nat.add_zero, List.take_zero, List.filterMap_nil, List.append_nil, List.drop_zero, List.replicate_zero]
  simp only at h
  rw [Nat.mod_eq_of_lt h]
  simp

/-- one more -/
theorem pop_succ {q : Q} {n : Nat} {v : UInt8} (hg : q.h[n]? = some (some v)) : (q.pop n).pop 1 = q.pop (n + 1) ∧ (q.pop n).h = some v :: (q.pop n).h.tail ∧ (q.pop (n + 1)).ready = (q.pop n).ready ++ [v] := by
  have hn : n < q.h.length := by
    rcases Nat.lt_or_ge n q.h.length with h | h
    · exact h
    · rw [List.getElem?_eq_none h] at hg; cases hg
  have hd : q.h.drop n = some v :: q.h.drop (n + 1) := by
    rw [List.drop_eq_getElem_cons hn]
    rw [List.getElem?_eq_getElem hn] at hg
    rw [Option.some.inj hg]
  have ht : q.h.take (n + 1) = q.h.take n ++ [some v] := by
    rw [List.take_add_one, hg]; rfl
  have hr : (q.pop (n + 1)).ready = (q.pop n).ready ++ [v] := by
    unfold Q.pop
    dsimp only
    rw [ht, List.filterMap_append]
    simp
  have hh : (q.pop n).h = some v :: (q.pop n).h.tail := by
    unfold Q.pop
    dsimp only
    rw [hd]; simp
  refine ⟨?_, hh, hr⟩
  unfold Q.pop
  dsimp only
  have e1 : ((q.next + n) % M32 + 1) % M32 = (q.next + (n + 1)) % M32 := by rw [Nat.mod_add_mod, Nat.add_assoc]
  have e2 : q.ready ++ List.filterMap id (q.h.take n) ++ List.filterMap id ((q.h.drop n ++ List.replicate n none).take 1) = q.ready ++ List.filterMap id (q.h.take (n + 1)) := by
    rw [hd, ht, List.filterMap_append]; simp
  have e3 : (q.h.drop n ++ List.replicate n none).drop 1 ++ List.replicate 1 none = q.h.drop (n + 1) ++ List.replicate (n + 1) none := by
    rw [hd]
    simp only [List.cons_append, List.drop_succ_cons, List.drop_zero, List.append_assoc]
    congr 1
    rw [List.replicate_succ' (n := n)]; rfl
  have e4 : (q.e.map (· - n)).map (· - 1) = q.e.map (· - (n + 1)) := by
    cases q.e <;> simp; omega
  rw [e1, e2, e3, e4]

theorem lead_win {q : Q} (h : Inv q) : lead q.h ≤ q.win := by
  rcases Nat.eq_zero_or_pos (lead q.h) with h0 | h0
  · omega
  · obtain ⟨v, hv⟩ := lead_get (l := q.h) (i := lead q.h - 1) (by omega)
    have := h.held (lead q.h - 1) v (by unfold Q.got; rw [hv]; rfl)
    omega

theorem inv_pop {q : Q} (h : Inv q) {n : Nat} (hn : n ≤ lead q.h) : Inv (q.pop n) := by
  have hw := lead_win h
  have hl := lead_le q.h
  have hr := ready_pop hn
  have hlen := h.len
  have hrd := h.ready
  have hwin : (q.pop n).win = q.win - n := by
    unfold Q.win Q.pop
    dsimp only
    rw [List.length_append, hr]; omega
  refine ⟨Nat.mod_lt _ (by decide), h.size1, h.size2, ?_, ?_, ?_, ?_, ?_⟩
  · unfold Q.pop Q.win at *
    dsimp only at *
    rw [List.length_append, hr]; omega
  · unfold Q.pop
    dsimp only
    rw [List.length_append, List.length_drop, List.length_replicate]; omega
  · intro i v hi
    rw [got_pop (by omega)] at hi
    have := h.held _ _ hi
    rw [hwin]; omega
  · intro x hx
    rw [hwin]
    have hx' : q.e.map (· - n) = some x := hx
    cases he : q.e with
    | none => rw [he] at hx'; cases hx'
    | some y =>
      rw [he] at hx'
      simp only [Option.map_some, Option.some.injEq] at hx'
      have := h.fin1 y he
      omega
  · intro x i v hx hi
    rw [got_pop (by omega)] at hi
    have hx' : q.e.map (· - n) = some x := hx
    cases he : q.e with
    | none => rw [he] at hx'; cases hx'
    | some y =>
      rw [he] at hx'
      simp only [Option.map_some, Option.some.injEq] at hx'
      have := h.fin2 y _ v he hi
      omega

theorem inv_close {q : Q} (h : Inv q) : Inv q.close := by
  unfold Q.close
  split
  · exact ⟨Nat.mod_lt _ (by decide), h.size1, h.size2, h.ready, h.len, h.held, h.fin1, h.fin2⟩
  · exact h

theorem inv_put {q : Q} (h : Inv q) (seq : Nat) (s : List UInt8) (fin : Bool) : Inv (q.put seq s fin) := by
  unfold Q.put
  split
  · exact h
  · exact inv_close (inv_pop (inv_mid h _ _ _) (Nat.le_refl _))

theorem inv_read {q : Q} (h : Inv q) (n : Nat) : Inv (q.read n) := by
  have hw : q.win ≤ (q.read n).win := by unfold Q.win Q.read; dsimp only; rw [List.length_drop]; omega
  refine ⟨h.next, h.size1, h.size2, ?_, h.len, ?_, ?_, h.fin2⟩
  · have := h.ready; unfold Q.read; dsimp only; rw [List.length_drop]; omega
  · intro i v hi; have := h.held i v hi; omega
  · intro x hx; have := h.fin1 x hx; omega

/-- a new one -/
def Q.new (next size : Nat) : Q := ⟨next, size, [], List.replicate (size + 1) none, none, false⟩
theorem inv_new {next size : Nat} (h1 : next < M32) (h2 : 1 ≤ size) (h3 : size ≤ 65536) : Inv (Q.new next size) := by
  have hg : ∀ i v, (Q.new next size).got i = some v → False := by
    intro i v hi
    unfold Q.got Q.new at hi
    dsimp only at hi
    rw [List.getElem?_replicate] at hi
    split at hi <;> cases hi
  exact ⟨h1, h2, h3, Nat.zero_le _, by unfold Q.new; simp, fun i v hi => (hg i v hi).elim, (fun x hx => by cases hx), fun x i v hx => by cases hx⟩

/- NUMBERS -/
theorem pos_lt (q : Q) (k : Nat) : q.pos k < M32 := Nat.mod_lt _ (by decide)
theorem pos_inj {q : Q} {k k' : Nat} (hk : k < M32) (hk' : k' < M32) (e : q.pos k = q.pos k') : k = k' := by
  unfold Q.pos M32 at *
  omega
theorem pos_of {q : Q} (h : q.next < M32) {i : Nat} (hi : i < M32) : q.pos ((q.next + i) % M32) = i := by
  unfold Q.pos M32 at *
  omega
theorem pos_back {q : Q} (h : q.next < M32) {k : Nat} (hk : k < M32) : (q.next + q.pos k) % M32 = k := by
  unfold Q.pos M32 at *
  omega

end Go.Proofs.Ythcjmghdmcapeaa
