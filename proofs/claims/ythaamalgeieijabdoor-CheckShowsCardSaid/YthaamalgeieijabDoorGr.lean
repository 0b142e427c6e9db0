/- Of what types events come: a search in rounds finds what a search by chains finds. Plain Lean; no condition. -/
import Derived.Test.YthaamalgeieijabDoorFb
set_option linter.unusedVariables false
set_option linter.unusedSimpArgs false
namespace Go.Proofs.YthaamalgeieijabDoor
open Go

def fires (x : Rul) (a : ByteArray) : Prop := x.etype ≠ emptyS ∧ usesF x a = true
/-- A chain of rules from one type to another. -/
def Chain (rules : List Rul) : ByteArray → List Rul → ByteArray → Prop
  | a, [], b => a = b
  | a, x :: l, b => x ∈ rules ∧ fires x a ∧ Chain rules x.etype l b
def Reach (rules : List Rul) (a b : ByteArray) : Prop := ∃ l, l ≠ [] ∧ Chain rules a l b
theorem chain_append {rules : List Rul} : ∀ {l l' : List Rul} {a b c : ByteArray}, Chain rules a l b → Chain rules b l' c → Chain rules a (l ++ l') c
  | [], l', a, b, c, h, h' => by simp only [Chain] at h; subst h; exact h'
  | x :: l, l', a, b, c, h, h' => ⟨h.1, h.2.1, chain_append h.2.2 h'⟩
theorem chain_split {rules : List Rul} : ∀ {l l' : List Rul} {a c : ByteArray}, Chain rules a (l ++ l') c → ∃ b, Chain rules a l b ∧ Chain rules b l' c
  | [], l', a, c, h => ⟨a, rfl, h⟩
  | x :: l, l', a, c, h => by
    obtain ⟨b, h1, h2⟩ := chain_split h.2.2
    exact ⟨b, ⟨h.1, h.2.1, h1⟩, h2⟩
theorem chain_sub {rules : List Rul} : ∀ {l : List Rul} {a b : ByteArray}, Chain rules a l b → ∀ x ∈ l, x ∈ rules
  | x :: l, a, b, h, y, hy => by
    rcases List.mem_cons.1 hy with rfl | hy
    · exact h.1
    · exact chain_sub h.2.2 y hy
theorem nodup_le {α : Type} : ∀ {l m : List α}, l.Nodup → (∀ x ∈ l, x ∈ m) → l.length ≤ m.length
  | [], m, _, _ => by simp
  | x :: l, m, h, hs => by
    obtain ⟨s, t, rfl⟩ := List.append_of_mem (hs x (by simp))
    have h1 := List.nodup_cons.1 h
    have := nodup_le (m := s ++ t) h1.2 fun y hy => by
      have hy' := hs y (List.mem_cons_of_mem _ hy)
      have hne : y ≠ x := fun e => h1.1 (by rw [← e]; exact hy)
      simp only [List.mem_append, List.mem_cons] at hy' ⊢
      rcases hy' with h | h | h
      · exact .inl h
      · exact absurd h hne
      · exact .inr h
    simp only [List.length_append, List.length_cons] at this ⊢
    omega
theorem dup_split {α : Type} : ∀ {l : List α}, ¬ l.Nodup → ∃ x l1 l2 l3, l = l1 ++ x :: l2 ++ x :: l3
  | [], h => absurd List.nodup_nil h
  | y :: l, h => by
    by_cases hy : y ∈ l
    · obtain ⟨s, t, rfl⟩ := List.append_of_mem hy
      exact ⟨y, [], s, t, by simp⟩
    · have : ¬ l.Nodup := fun hn => h (List.nodup_cons.2 ⟨hy, hn⟩)
      obtain ⟨x, l1, l2, l3, rfl⟩ := dup_split this
      exact ⟨x, y :: l1, l2, l3, by simp⟩
theorem chain_short {rules : List Rul} {a b : ByteArray} : ∀ (n : Nat) (l : List Rul), l.length ≤ n → l ≠ [] → Chain rules a l b → ∃ l', l' ≠ [] ∧ l'.Nodup ∧ Chain rules a l' b
  | 0, l, hn, hl, _ => absurd (List.eq_nil_of_length_eq_zero (by omega)) hl
  | n + 1, l, hn, hl, h => by
    by_cases hd : l.Nodup
    · exact ⟨l, hl, hd, h⟩
    · obtain ⟨x, l1, l2, l3, rfl⟩ := dup_split hd
      rw [List.append_assoc] at h
      obtain ⟨c, h1, h2⟩ := chain_split h
      have h3 : Chain rules x.etype (l2 ++ x :: l3) b := h2.2.2
      obtain ⟨d, h4, h5⟩ := chain_split h3
      refine chain_short n (l1 ++ x :: l3) (by simp at hn ⊢; omega) (by simp) (chain_append h1 ⟨h2.1, h2.2.1, h5.2.2⟩)
theorem comesF_iff {rules : List Rul} {to : ByteArray} : ∀ (n : Nat) (a : ByteArray), comesF rules to n a = true ↔ ∃ l, l ≠ [] ∧ l.length ≤ n ∧ Chain rules a l to
  | 0, a => by
    simp only [comesF, Bool.false_eq_true, false_iff]
    rintro ⟨l, h1, h2, _⟩
    exact h1 (List.eq_nil_of_length_eq_zero (by omega))
  | n + 1, a => by
    simp only [comesF, List.any_eq_true, Bool.and_eq_true, Bool.or_eq_true, decide_eq_true_eq]
    constructor
    · rintro ⟨x, hx, ⟨h1, h2⟩, h3 | h3⟩
      · exact ⟨[x], by simp, by simp, hx, ⟨h1, h2⟩, h3⟩
      · obtain ⟨l, q1, q2, q3⟩ := (comesF_iff n x.etype).1 h3
        exact ⟨x :: l, by simp, by simp; omega, hx, ⟨h1, h2⟩, q3⟩
    · rintro ⟨l, q1, q2, q3⟩
      cases l with
      | nil => exact absurd rfl q1
      | cons x l =>
        obtain ⟨hx, ⟨h1, h2⟩, h3⟩ := q3
        refine ⟨x, hx, ⟨h1, h2⟩, ?_⟩
        cases l with
        | nil => exact .inl h3
        | cons y l => exact .inr ((comesF_iff n x.etype).2 ⟨y :: l, by simp, by simp at q2 ⊢; omega, h3⟩)
theorem comesF_reach {rules : List Rul} {to a : ByteArray} : comesF rules to rules.length a = true ↔ Reach rules a to := by
  rw [comesF_iff]
  constructor
  · rintro ⟨l, h1, _, h2⟩; exact ⟨l, h1, h2⟩
  · rintro ⟨l, h1, h2⟩
    obtain ⟨l', h3, h4, h5⟩ := chain_short l.length l (Nat.le_refl _) h1 h2
    exact ⟨l', h3, nodup_le h4 (chain_sub h5), h5⟩
/-- A search in rounds, where it stands: what was seen is reached; what is not to do any more is done. -/
structure Sought (rules : List Rul) (a : ByteArray) (seen todo : List ByteArray) : Prop where
  got : ∀ s ∈ seen, Reach rules a s
  due : ∀ s ∈ todo, s = a ∨ s ∈ seen
  done : ∀ s, (s = a ∨ s ∈ seen) → s ∈ todo ∨ ∀ x ∈ rules, fires x s → x.etype ∈ seen
theorem Sought.start {rules : List Rul} {a : ByteArray} : Sought rules a [] [a] :=
  ⟨by simp, by simp, by simp⟩
theorem reach_step {rules : List Rul} {a b : ByteArray} {x : Rul} (h : b = a ∨ Reach rules a b) (hx : x ∈ rules) (hf : fires x b) : Reach rules a x.etype := by
  rcases h with rfl | ⟨l, h1, h2⟩
  · exact ⟨[x], by simp, hx, hf, rfl⟩
  · exact ⟨l ++ [x], by simp, chain_append h2 ⟨hx, hf, rfl⟩⟩
theorem Sought.all {rules : List Rul} {a : ByteArray} {seen : List ByteArray} (h : Sought rules a seen []) (s : ByteArray) : s ∈ seen ↔ Reach rules a s := by
  refine ⟨h.got s, ?_⟩
  rintro ⟨l, h1, h2⟩
  have key : ∀ (l : List Rul) (b : ByteArray), (b = a ∨ b ∈ seen) → Chain rules b l s → s = b ∧ l = [] ∨ s ∈ seen := by
    intro l
    induction l with
    | nil => intro b hb hc; exact .inl ⟨hc.symm, rfl⟩
    | cons x l ih =>
      intro b hb hc
      rcases h.done b hb with hd | hd
      · cases hd
      · have hx := hd x hc.1 hc.2.1
        rcases ih x.etype (.inr hx) hc.2.2 with ⟨h3, _⟩ | h3
        · exact .inr (by rw [h3]; exact hx)
        · exact .inr h3
  rcases key l a (.inl rfl) h2 with ⟨_, h3⟩ | h3
  · exact absurd h3 h1
  · exact h3
/-- In the round of one name, where the first rules are looked at. -/
structure Seeking (rules : List Rul) (a n : ByteArray) (k : Nat) (seen todo : List ByteArray) : Prop where
  at_ : n = a ∨ n ∈ seen
  got : ∀ s ∈ seen, Reach rules a s
  due : ∀ s ∈ todo, s = a ∨ s ∈ seen
  here_ : ∀ x ∈ rules.take k, fires x n → x.etype ∈ seen
  done : ∀ s, s ≠ n → (s = a ∨ s ∈ seen) → s ∈ todo ∨ ∀ x ∈ rules, fires x s → x.etype ∈ seen
theorem Sought.pop {rules : List Rul} {a n : ByteArray} {seen todo : List ByteArray} (h : Sought rules a seen (n :: todo)) : Seeking rules a n 0 seen todo :=
  ⟨h.due n (by simp), h.got, fun s hs => h.due s (List.mem_cons_of_mem _ hs), by simp, fun s hsn hs => by
    rcases h.done s hs with h1 | h1
    · rcases List.mem_cons.1 h1 with h1 | h1
      · exact absurd h1 hsn
      · exact .inl h1
    · exact .inr h1⟩
theorem Seeking.next {rules : List Rul} {a n : ByteArray} {k : Nat} {seen todo : List ByteArray} (h : Seeking rules a n k seen todo) (hk : k < rules.length) (hs : fires rules[k] n → rules[k].etype ∈ seen) : Seeking rules a n (k + 1) seen todo :=
  ⟨h.at_, h.got, h.due, fun x hx hf => by
    rw [take_step hk] at hx
    rcases List.mem_append.1 hx with hx | hx
    · exact h.here_ x hx hf
    · rw [List.mem_singleton] at hx; subst hx; exact hs hf, h.done⟩
theorem Seeking.push {rules : List Rul} {a n : ByteArray} {k : Nat} {seen todo : List ByteArray} (h : Seeking rules a n k seen todo) (hk : k < rules.length) (hf : fires rules[k] n) : Seeking rules a n (k + 1) (seen ++ [rules[k].etype]) (todo ++ [rules[k].etype]) where
  at_ := h.at_.imp id fun h => by simp [h]
  got := fun s hs => by
    rcases List.mem_append.1 hs with hs | hs
    · exact h.got s hs
    · rw [List.mem_singleton] at hs; subst hs
      exact reach_step (h.at_.imp id (h.got n)) (List.getElem_mem hk) hf
  due := fun s hs => by
    rcases List.mem_append.1 hs with hs | hs
    · exact (h.due s hs).imp id fun h => by simp [h]
    · rw [List.mem_singleton] at hs; subst hs; exact .inr (by simp)
  here_ := fun x hx hfx => by
    rw [take_step hk] at hx
    rcases List.mem_append.1 hx with hx | hx
    · have := h.here_ x hx hfx; simp [this]
    · rw [List.mem_singleton] at hx; subst hx; simp
  done := fun s hsn hs => by
    by_cases hk' : s = rules[k].etype
    · exact .inl (by simp [hk'])
    · have hs' : s = a ∨ s ∈ seen := hs.imp id fun h => by simpa [hk'] using h
      rcases h.done s hsn hs' with h1 | h1
      · exact .inl (by simp [h1])
      · exact .inr fun x hx hf => by have := h1 x hx hf; simp [this]
theorem Seeking.end {rules : List Rul} {a n : ByteArray} {k : Nat} {seen todo : List ByteArray} (h : Seeking rules a n k seen todo) (hk : rules.length ≤ k) : Sought rules a seen todo :=
  ⟨h.got, h.due, fun s hs => by
    by_cases hsn : s = n
    · subst hsn
      have := h.here_
      rw [List.take_of_length_le hk] at this
      exact .inr this
    · exact h.done s hsn hs⟩
/-- How many rules emit what was not seen yet. -/
def unseen (rules : List Rul) (seen : List ByteArray) : Nat := (rules.filter fun x => !(seen.any fun s => decide (s = x.etype))).length
theorem unseen_push {rules : List Rul} {seen : List ByteArray} {x : Rul} (hx : x ∈ rules) (hs : seen.any (fun s => decide (s = x.etype)) = false) : unseen rules (seen ++ [x.etype]) + 1 ≤ unseen rules seen := by
  have e : unseen rules (seen ++ [x.etype]) = ((rules.filter fun z => !(seen.any fun s => decide (s = z.etype))).filter fun z => !decide (x.etype = z.etype)).length := by
    unfold unseen
    rw [List.filter_filter]
    congr 2
    funext z
    rw [List.any_append]
    simp [Bool.and_comm]
  rw [e]
  have := (List.length_filter_lt_length_iff_exists (l := rules.filter fun z => !(seen.any fun s => decide (s = z.etype))) (p := fun z => !decide (x.etype = z.etype))).2 ⟨x, List.mem_filter.2 ⟨hx, by rw [hs]; rfl⟩, by simp⟩
  unfold unseen
  omega
end Go.Proofs.YthaamalgeieijabDoor
