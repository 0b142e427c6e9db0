/- Contracts: types, fields, patterns by name, windows. No condition. -/
import Derived.Test.YthaamalgeieijabDoorFb
import Derived.Test.YthaamalgeieijabDoorCa
set_option linter.unusedVariables false
set_option linter.unusedSimpArgs false
namespace Go.Proofs.YthaamalgeieijabDoor
open Go

theorem rTypeNamed_ok {A : Option Addr} {c : Nat} {types : List Typ} {s : ByteArray} {n : Nat} {M L : Mem} (hn : n = types.length) (h : Row M Typ.toV 2 A c types) :
    Pure Tryd.prog 24 #[.slice A n c, .string s] M L (.int .i64 (idxF (fun t => decide (t.name = s)) 0 types)) := by
  subst hn
  refine Pure.of (rTypeNamed_spec ?_)
  unfold vc_rTypeNamed
  refine LOOP.to types.length (fun j => idxF (fun t => decide (t.name = s)) 0 types = idxF (fun t => decide (t.name = s)) j (types.drop j)) (by simp) ?_
  intro j again hj hI hag
  have hlen := (h).len
  (repeat apply EX.in)
  refine NEED.mk ⟨rfl, rfl⟩ ?_
  refine IFF.mk (fun hb => ?_) (fun hb => ?_) <;> (try simp only [decide_eq_true_eq, decide_eq_false_iff_not, Bool.and_eq_true, Bool.or_eq_true, Bool.not_eq_true', Bool.not_eq_false', Bool.and_eq_false_iff, Bool.or_eq_false_iff, Bool.not_true, Bool.not_false, Int.not_lt, Int.not_le, Decidable.not_not, ne_eq] at hb)
  · have hlt : j < types.length := by simpa using hb
    have hr := (h).cell j hlt
    have hd := drop_step hlt
    refine NEED.mk ⟨hr.ne, by omega, by omega⟩ ?_
    (repeat apply EX.in)
    refine NEED.mk (by first | exact (ReadsAt.sub hr (0) (by simp) rfl).up | exact ReadsAt.sub hr (0) (by simp) rfl) ?_
    refine IFF.mk (fun hb => ?_) (fun hb => ?_) <;> (try simp only [decide_eq_true_eq, decide_eq_false_iff_not, Bool.and_eq_true, Bool.or_eq_true, Bool.not_eq_true', Bool.not_eq_false', Bool.and_eq_false_iff, Bool.or_eq_false_iff, Bool.not_true, Bool.not_false, Int.not_lt, Int.not_le, Decidable.not_not, ne_eq] at hb)
    · refine ⟨?_, rfl⟩; grind [idxF]
    · refine NEED.mk (by unfold inI64; omega) ?_
      refine NEED.mk ⟨rfl, rfl⟩ ?_
      exact hag hlt (by grind [idxF])
  · have hd := drop_end (j := j) (l := types) (by simpa using hb)
    refine ⟨?_, rfl⟩; grind [idxF]
theorem rPatternNamed_ok {A : Option Addr} {c : Nat} {l : List Pat} {s : ByteArray} {n : Nat} {M L : Mem} (hn : n = l.length) (h : Row M Pat.toV 18 A c l) :
    Pure Tryd.prog 72 #[.slice A n c, .string s] M L (.int .i64 (idxF (fun p => decide (p.var = s)) 0 l)) := by
  subst hn
  refine Pure.of (rPatternNamed_spec ?_)
  unfold vc_rPatternNamed
  refine LOOP.to l.length (fun j => idxF (fun p => decide (p.var = s)) 0 l = idxF (fun p => decide (p.var = s)) j (l.drop j)) (by simp) ?_
  intro j again hj hI hag
  have hlen := (h).len
  (repeat apply EX.in)
  refine NEED.mk ⟨rfl, rfl⟩ ?_
  refine IFF.mk (fun hb => ?_) (fun hb => ?_) <;> (try simp only [decide_eq_true_eq, decide_eq_false_iff_not, Bool.and_eq_true, Bool.or_eq_true, Bool.not_eq_true', Bool.not_eq_false', Bool.and_eq_false_iff, Bool.or_eq_false_iff, Bool.not_true, Bool.not_false, Int.not_lt, Int.not_le, Decidable.not_not, ne_eq] at hb)
  · have hlt : j < l.length := by simpa using hb
    have hr := (h).cell j hlt
    have hd := drop_step hlt
    refine NEED.mk ⟨hr.ne, by omega, by omega⟩ ?_
    (repeat apply EX.in)
    refine NEED.mk (by first | exact (ReadsAt.sub hr (0) (by simp) rfl).up | exact ReadsAt.sub hr (0) (by simp) rfl) ?_
    refine IFF.mk (fun hb => ?_) (fun hb => ?_) <;> (try simp only [decide_eq_true_eq, decide_eq_false_iff_not, Bool.and_eq_true, Bool.or_eq_true, Bool.not_eq_true', Bool.not_eq_false', Bool.and_eq_false_iff, Bool.or_eq_false_iff, Bool.not_true, Bool.not_false, Int.not_lt, Int.not_le, Decidable.not_not, ne_eq] at hb)
    · refine ⟨?_, rfl⟩; grind [idxF]
    · refine NEED.mk (by unfold inI64; omega) ?_
      refine NEED.mk ⟨rfl, rfl⟩ ?_
      exact hag hlt (by grind [idxF])
  · have hd := drop_end (j := j) (l := l) (by simpa using hb)
    refine ⟨?_, rfl⟩; grind [idxF]
theorem rFieldAt_ok {t : Typ} {s : ByteArray} {M L : Mem} (h : t.Ok M) :
    Pure Tryd.prog 71 #[t.toV, .string s] M L (.int .i64 (idxF (fun f => decide (f.name = s)) 0 t.fields)) := by
  refine Pure.of (rFieldAt_spec ?_)
  unfold vc_rFieldAt
  refine LOOP.to t.fields.length (fun j => idxF (fun f => decide (f.name = s)) 0 t.fields = idxF (fun f => decide (f.name = s)) j (t.fields.drop j)) (by simp) ?_
  intro j again hj hI hag
  have hlen := (h.fields).len
  (repeat apply EX.in)
  refine NEED.mk ⟨rfl, rfl⟩ ?_
  refine IFF.mk (fun hb => ?_) (fun hb => ?_) <;> (try simp only [decide_eq_true_eq, decide_eq_false_iff_not, Bool.and_eq_true, Bool.or_eq_true, Bool.not_eq_true', Bool.not_eq_false', Bool.and_eq_false_iff, Bool.or_eq_false_iff, Bool.not_true, Bool.not_false, Int.not_lt, Int.not_le, Decidable.not_not, ne_eq] at hb)
  · have hlt : j < t.fields.length := by simpa using hb
    have hr := (h.fields).cell j hlt
    have hd := drop_step hlt
    refine NEED.mk ⟨hr.ne, by omega, by omega⟩ ?_
    (repeat apply EX.in)
    refine NEED.mk (by first | exact (ReadsAt.sub hr (0) (by simp) rfl).up | exact ReadsAt.sub hr (0) (by simp) rfl) ?_
    refine IFF.mk (fun hb => ?_) (fun hb => ?_) <;> (try simp only [decide_eq_true_eq, decide_eq_false_iff_not, Bool.and_eq_true, Bool.or_eq_true, Bool.not_eq_true', Bool.not_eq_false', Bool.and_eq_false_iff, Bool.or_eq_false_iff, Bool.not_true, Bool.not_false, Int.not_lt, Int.not_le, Decidable.not_not, ne_eq] at hb)
    · refine ⟨?_, rfl⟩; grind [idxF]
    · refine NEED.mk (by unfold inI64; omega) ?_
      refine NEED.mk ⟨rfl, rfl⟩ ?_
      exact hag hlt (by grind [idxF])
  · have hd := drop_end (j := j) (l := t.fields) (by simpa using hb)
    refine ⟨?_, rfl⟩; grind [idxF]
theorem fieldsAt_idx {s : ByteArray} : ∀ {l : List Fld} {j : Nat}, (idxF (fun f => decide (f.name = s)) j l < 0 ∧ fieldsAt j l s = (0, 0, 6)) ∨
    ∃ i, ∃ h : i < l.length, idxF (fun f => decide (f.name = s)) j l = ((j + i : Nat) : Int) ∧ fieldsAt j l s = (((j + i : Nat) : Int), l[i].kind, 0)
  | [], j => .inl ⟨by simp [idxF], rfl⟩
  | f :: l, j => by
    simp only [idxF, fieldsAt]
    by_cases hf : f.name = s
    · exact .inr ⟨0, by simp, by simp [hf], by simp [hf]⟩
    · rcases fieldsAt_idx (s := s) (l := l) (j := j + 1) with ⟨h1, h2⟩ | ⟨i, hi, h1, h2⟩
      · exact .inl ⟨by simp [hf, h1], by simp [hf, h2]⟩
      · exact .inr ⟨i + 1, by simpa using hi, by simp only [hf, decide_false, Bool.false_eq_true, if_false, h1]; congr 1; omega, by simp only [hf, if_false, h2]; simp; omega⟩
theorem rSumFault_ok {t : Typ} {s : ByteArray} {M L : Mem} (h : t.Ok M) : Pure Tryd.prog 49 #[t.toV, .string s] M L (.int .i64 (sumF t s)) := by
  refine Pure.of (rSumFault_spec ?_)
  unfold vc_rSumFault
  refine CALL.pure (rFieldAt_ok h) ?_
  (repeat apply EX.in)
  refine NEED.mk rfl ?_
  rcases fieldsAt_idx (s := s) (l := t.fields) (j := 0) with ⟨h1, h2⟩ | ⟨i, hi, h1, h2⟩
  · refine IFF.yes' (by simpa using h1) ⟨?_, rfl⟩
    simp [sumF, kindF, h2]
  · refine IFF.no' (by simp [h1]) ?_
    have hr := h.fields.cell i hi
    rw [h1]
    refine NEED.mk ⟨hr.ne, by omega, by omega⟩ ?_
    (repeat apply EX.in)
    refine NEED.mk (by first | exact (ReadsAt.sub hr (1) (by simp) rfl).up | exact ReadsAt.sub hr (1) (by simp) rfl) ?_
    repeat' (first
          | refine IFF.t ?_
          | refine IFF.f ?_
          | (refine IFF.mk (fun hb => ?_) (fun hb => ?_) <;> (try simp only [decide_eq_true_eq, decide_eq_false_iff_not, Bool.and_eq_true, Bool.or_eq_true, Bool.not_eq_true', Bool.not_eq_false', Bool.and_eq_false_iff, Bool.or_eq_false_iff, Bool.not_true, Bool.not_false, Int.not_lt, Int.not_le, Decidable.not_not, ne_eq] at hb))
          | refine NEED.mk ⟨rfl, rfl⟩ ?_
          | refine NEED.mk rfl ?_
          | refine EX.in _ (NEED.mk rfl ?_)
          | refine EX.in _ (EX.in _ (NEED.mk rfl ?_))
          | refine EX.in _ (EX.in _ (EX.in _ (NEED.mk rfl ?_)))
          | refine NEED.mk ⟨trivial, trivial⟩ ?_
          | refine NEED.mk (by unfold inI64; omega) ?_
          | fail)
    all_goals (refine ⟨?_, rfl⟩; (try simp at hb); simp [sumF, kindF, h2, hb])
theorem vCheckType_ok {t : Typ} {M L : Mem} (h : t.Ok M) : Pure Tryd.prog 14 #[t.toV] M L (.int .i64 (typeF t)) := by
  refine Pure.of (vCheckType_spec ?_)
  unfold vc_vCheckType
  refine CALL.pure (vName_ok) ?_
  (repeat apply EX.in)
  refine NEED.mk rfl ?_
  refine IFF.mk (fun hb => ?_) (fun hb => ?_) <;> (try simp only [decide_eq_true_eq, decide_eq_false_iff_not, Bool.and_eq_true, Bool.or_eq_true, Bool.not_eq_true', Bool.not_eq_false', Bool.and_eq_false_iff, Bool.or_eq_false_iff, Bool.not_true, Bool.not_false, Int.not_lt, Int.not_le, Decidable.not_not, ne_eq] at hb)
  · refine ⟨?_, rfl⟩; grind [typeF]
  refine IFF.mk (fun hb => ?_) (fun hb => ?_) <;> (try simp only [decide_eq_true_eq, decide_eq_false_iff_not, Bool.and_eq_true, Bool.or_eq_true, Bool.not_eq_true', Bool.not_eq_false', Bool.and_eq_false_iff, Bool.or_eq_false_iff, Bool.not_true, Bool.not_false, Int.not_lt, Int.not_le, Decidable.not_not, ne_eq] at hb)
  · refine ⟨?_, rfl⟩; grind [typeF]
  have hT : typeF t = fldsF [] t.fields := by grind [typeF]
  rw [hT]
  refine LOOP.to t.fields.length (fun j => fldsF [] t.fields = fldsF (t.fields.take j) (t.fields.drop j)) (by simp) ?_
  intro j again hj hI hag
  have hlen := (h.fields).len
  (repeat apply EX.in)
  refine NEED.mk ⟨rfl, rfl⟩ ?_
  refine IFF.mk (fun hb => ?_) (fun hb => ?_) <;> (try simp only [decide_eq_true_eq, decide_eq_false_iff_not, Bool.and_eq_true, Bool.or_eq_true, Bool.not_eq_true', Bool.not_eq_false', Bool.and_eq_false_iff, Bool.or_eq_false_iff, Bool.not_true, Bool.not_false, Int.not_lt, Int.not_le, Decidable.not_not, ne_eq] at hb)
  · have hlt : j < t.fields.length := by simpa using hb
    have hr := (h.fields).cell j hlt
    have hd := drop_step hlt
    refine NEED.mk ⟨hr.ne, by omega, by omega⟩ ?_
    have hs := take_step hlt
    rw [hd] at hI
    rw [hI]
    (repeat apply EX.in)
    refine NEED.mk (by first | exact hr.up | exact hr) ?_
    refine CALL.pure (vName_ok) ?_
    (repeat apply EX.in)
    refine NEED.mk rfl ?_
    refine IFF.mk (fun hb => ?_) (fun hb => ?_) <;> (try simp only [decide_eq_true_eq, decide_eq_false_iff_not, Bool.and_eq_true, Bool.or_eq_true, Bool.not_eq_true', Bool.not_eq_false', Bool.and_eq_false_iff, Bool.or_eq_false_iff, Bool.not_true, Bool.not_false, Int.not_lt, Int.not_le, Decidable.not_not, ne_eq] at hb)
    · refine ⟨?_, rfl⟩; grind [fldsF]
    refine IFF.mk (fun hb => ?_) (fun hb => ?_) <;> (try simp only [decide_eq_true_eq, decide_eq_false_iff_not, Bool.and_eq_true, Bool.or_eq_true, Bool.not_eq_true', Bool.not_eq_false', Bool.and_eq_false_iff, Bool.or_eq_false_iff, Bool.not_true, Bool.not_false, Int.not_lt, Int.not_le, Decidable.not_not, ne_eq] at hb)
    · refine ⟨?_, rfl⟩; grind [fldsF]
    have hle := h.fields.le
    refine NEED.mk ⟨by omega, by omega⟩ ?_
    have hlj : (t.fields.take j).length = j := by simp; omega
    have hT2 : fldsF (t.fields.take j) (t.fields[j] :: t.fields.drop (j + 1)) = if (t.fields.take j).any (fun g => decide (g.name = t.fields[j].name)) = true then 7 else fldsF (t.fields.take (j + 1)) (t.fields.drop (j + 1)) := by
      grind [fldsF]
    refine LOOP.to j (fun i => (t.fields.take j).any (fun g => decide (g.name = t.fields[j].name)) = ((t.fields.take j).drop i).any (fun g => decide (g.name = t.fields[j].name))) (by simp) ?_
    intro i again2 hi hI2 hag2
    (repeat apply EX.in)
    refine NEED.mk ⟨rfl, rfl⟩ ?_
    refine IFF.mk (fun hb => ?_) (fun hb => ?_) <;> (try simp only [decide_eq_true_eq, decide_eq_false_iff_not, Bool.and_eq_true, Bool.or_eq_true, Bool.not_eq_true', Bool.not_eq_false', Bool.and_eq_false_iff, Bool.or_eq_false_iff, Bool.not_true, Bool.not_false, Int.not_lt, Int.not_le, Decidable.not_not, ne_eq] at hb)
    · have hli : i < (t.fields.take j).length := by (try simp at hb); omega
      have hr := (h.fields.take j).cell i hli
      have hd2 := drop_step hli
      refine NEED.mk ⟨hr.ne, by omega, by simp; omega⟩ ?_
      (repeat apply EX.in)
      refine NEED.mk (by first | exact hr.up | exact hr) ?_
      refine IFF.mk (fun hb => ?_) (fun hb => ?_) <;> (try simp only [decide_eq_true_eq, decide_eq_false_iff_not, Bool.and_eq_true, Bool.or_eq_true, Bool.not_eq_true', Bool.not_eq_false', Bool.and_eq_false_iff, Bool.or_eq_false_iff, Bool.not_true, Bool.not_false, Int.not_lt, Int.not_le, Decidable.not_not, ne_eq] at hb)
      · refine ⟨?_, rfl⟩; grind
      · refine NEED.mk (by unfold inI64; omega) ?_
        refine NEED.mk ⟨rfl, rfl⟩ ?_
        exact hag2 (by omega) (by grind)
    · have hd2 := drop_end (j := i) (l := t.fields.take j) (by (try simp at hb); omega)
      refine NEED.mk (by unfold inI64; omega) ?_
      refine NEED.mk ⟨rfl, rfl⟩ ?_
      refine hag hlt ?_
      grind
  · have hd := drop_end (j := j) (l := t.fields) (by simpa using hb)
    refine ⟨?_, rfl⟩; grind [fldsF]
theorem vField_ok {t : Typ} {s : ByteArray} {M L : Mem} (h : t.Ok M) :
    Pure Tryd.prog 59 #[t.toV, .string s] M L (.tuple #[.int .i64 (fieldF t s).1, .int .i64 (fieldF t s).2.1, .int .i64 (fieldF t s).2.2]) := by
  refine Pure.of (vField_spec ?_)
  unfold vc_vField
  refine CALL.pure (vCheckType_ok h) ?_
  (repeat apply EX.in)
  refine NEED.mk rfl ?_
  refine IFF.mk (fun hb => ?_) (fun hb => ?_) <;> (try simp only [decide_eq_true_eq, decide_eq_false_iff_not, Bool.and_eq_true, Bool.or_eq_true, Bool.not_eq_true', Bool.not_eq_false', Bool.and_eq_false_iff, Bool.or_eq_false_iff, Bool.not_true, Bool.not_false, Int.not_lt, Int.not_le, Decidable.not_not, ne_eq] at hb)
  · refine ⟨?_, rfl⟩; (try simp at hb); simp [fieldF, hb]
  have hT : fieldF t s = fieldsAt 0 t.fields s := by (try simp at hb); simp [fieldF, hb]
  rw [hT]
  refine LOOP.to t.fields.length (fun j => fieldsAt 0 t.fields s = fieldsAt j (t.fields.drop j) s) (by simp) ?_
  intro j again hj hI hag
  have hlen := (h.fields).len
  (repeat apply EX.in)
  refine NEED.mk ⟨rfl, rfl⟩ ?_
  refine IFF.mk (fun hb => ?_) (fun hb => ?_) <;> (try simp only [decide_eq_true_eq, decide_eq_false_iff_not, Bool.and_eq_true, Bool.or_eq_true, Bool.not_eq_true', Bool.not_eq_false', Bool.and_eq_false_iff, Bool.or_eq_false_iff, Bool.not_true, Bool.not_false, Int.not_lt, Int.not_le, Decidable.not_not, ne_eq] at hb)
  · have hlt : j < t.fields.length := by simpa using hb
    have hr := (h.fields).cell j hlt
    have hd := drop_step hlt
    refine NEED.mk ⟨hr.ne, by omega, by omega⟩ ?_
    rw [hd] at hI
    (repeat apply EX.in)
    refine NEED.mk (by first | exact hr.up | exact hr) ?_
    refine IFF.mk (fun hb => ?_) (fun hb => ?_) <;> (try simp only [decide_eq_true_eq, decide_eq_false_iff_not, Bool.and_eq_true, Bool.or_eq_true, Bool.not_eq_true', Bool.not_eq_false', Bool.and_eq_false_iff, Bool.or_eq_false_iff, Bool.not_true, Bool.not_false, Int.not_lt, Int.not_le, Decidable.not_not, ne_eq] at hb)
    · refine ⟨?_, rfl⟩; rw [hI]; (try simp at hb); simp [fieldsAt, hb]
    · refine NEED.mk (by unfold inI64; omega) ?_
      refine NEED.mk ⟨rfl, rfl⟩ ?_
      refine hag hlt ?_
      (try simp at hb); simp [hI, fieldsAt, hb]
  · have hd := drop_end (j := j) (l := t.fields) (by simpa using hb)
    refine ⟨?_, rfl⟩; rw [hI, hd]; rfl
theorem cSummed_ok {t : Typ} {s : ByteArray} {M L : Mem} (h : t.Ok M) (ht : typeF t = 0) : Pure Tryd.prog 36 #[t.toV, .string s] M L (.int .i64 (if s = emptyS then 0 else sumF t s)) := by
  refine Pure.of (cSummed_spec ?_)
  unfold vc_cSummed
  repeat' (first
        | refine IFF.t ?_
        | refine IFF.f ?_
        | (refine IFF.mk (fun hb => ?_) (fun hb => ?_) <;> (try simp only [decide_eq_true_eq, decide_eq_false_iff_not, Bool.and_eq_true, Bool.or_eq_true, Bool.not_eq_true', Bool.not_eq_false', Bool.and_eq_false_iff, Bool.or_eq_false_iff, Bool.not_true, Bool.not_false, Int.not_lt, Int.not_le, Decidable.not_not, ne_eq] at hb))
        | refine CALL.pure (vField_ok h) ?_
        | refine NEED.mk ⟨rfl, rfl⟩ ?_
        | refine NEED.mk rfl ?_
        | refine EX.in _ (NEED.mk rfl ?_)
        | refine EX.in _ (EX.in _ (NEED.mk rfl ?_))
        | refine EX.in _ (EX.in _ (EX.in _ (NEED.mk rfl ?_)))
        | refine NEED.mk ⟨trivial, trivial⟩ ?_
        | refine NEED.mk (by unfold inI64; omega) ?_
        | fail)
  all_goals (refine ⟨?_, rfl⟩; grind [sumF, kindF, fieldF])
theorem rTypeFault_ok {t : Typ} {M L : Mem} (h : t.Ok M) : Pure Tryd.prog 22 #[t.toV] M L (.int .i64 (typeF t)) := by
  refine Pure.of (rTypeFault_spec ?_)
  unfold vc_rTypeFault
  refine CALL.pure (rNameFault_ok) ?_
  (repeat apply EX.in)
  refine NEED.mk rfl ?_
  refine JOIN.at (L := L) (fun e : Int => [.int .i64 e]) (fun e => e = if nameF t.name ≠ 0 then nameF t.name else if 4 < t.fields.length then 1 else 0) (fun nx hnx => ?_) (fun e he => ?_)
  · repeat' (first
          | refine IFF.t ?_
          | refine IFF.f ?_
          | (refine IFF.mk (fun hb => ?_) (fun hb => ?_) <;> (try simp only [decide_eq_true_eq, decide_eq_false_iff_not, Bool.and_eq_true, Bool.or_eq_true, Bool.not_eq_true', Bool.not_eq_false', Bool.and_eq_false_iff, Bool.or_eq_false_iff, Bool.not_true, Bool.not_false, Int.not_lt, Int.not_le, Decidable.not_not, ne_eq] at hb))
          | refine NEED.mk ⟨rfl, rfl⟩ ?_
          | refine NEED.mk rfl ?_
          | refine EX.in _ (NEED.mk rfl ?_)
          | refine EX.in _ (EX.in _ (NEED.mk rfl ?_))
          | refine EX.in _ (EX.in _ (EX.in _ (NEED.mk rfl ?_)))
          | refine NEED.mk ⟨trivial, trivial⟩ ?_
          | refine NEED.mk (by unfold inI64; omega) ?_
          | fail)
    all_goals exact hnx _ (by grind)
  (repeat apply EX.in)
  refine NEED.mk ⟨rfl, rfl⟩ ?_
  refine LOOP.toS t.fields.length (fun (e : Int) j => [.int .i64 e, .int .i64 (j : Int)]) (fun e j => typeF t = if e ≠ 0 then e else fldsF (t.fields.take j) (t.fields.drop j)) e rfl (by rw [he]; grind [typeF]) ?_
  intro e j again hj hI hag
  have hlen := h.fields.len
  (repeat apply EX.in)
  refine NEED.mk ⟨rfl, rfl⟩ ?_
  refine IFF.mk (fun hb => ?_) (fun hb => ?_) <;> (try simp only [decide_eq_true_eq, decide_eq_false_iff_not, Bool.and_eq_true, Bool.or_eq_true, Bool.not_eq_true', Bool.not_eq_false', Bool.and_eq_false_iff, Bool.or_eq_false_iff, Bool.not_true, Bool.not_false, Int.not_lt, Int.not_le, Decidable.not_not, ne_eq] at hb)
  · have hlt : j < t.fields.length := by (try simp at hb); omega
    have he0 : e = 0 := by (try simp at hb); omega
    subst he0
    have hr := h.fields.cell j hlt
    have hd := drop_step hlt
    have hs := take_step hlt
    rw [hd] at hI
    refine NEED.mk ⟨hr.ne, by omega, by omega⟩ ?_
    (repeat apply EX.in)
    refine NEED.mk (by first | exact hr.up | exact hr) ?_
    refine CALL.pure (rNameFault_ok) ?_
    (repeat apply EX.in)
    refine NEED.mk rfl ?_
    refine JOIN.at (L := L) (fun e : Int => [.int .i64 e]) (fun e => e = if nameF t.fields[j].name ≠ 0 then nameF t.fields[j].name else if t.fields[j].kind ≠ 1 ∧ t.fields[j].kind ≠ 2 then 3 else 0) (fun nx hnx => ?_) (fun e he => ?_)
    · repeat' (first
            | refine IFF.t ?_
            | refine IFF.f ?_
            | (refine IFF.mk (fun hb => ?_) (fun hb => ?_) <;> (try simp only [decide_eq_true_eq, decide_eq_false_iff_not, Bool.and_eq_true, Bool.or_eq_true, Bool.not_eq_true', Bool.not_eq_false', Bool.and_eq_false_iff, Bool.or_eq_false_iff, Bool.not_true, Bool.not_false, Int.not_lt, Int.not_le, Decidable.not_not, ne_eq] at hb))
            | refine CALL.pure (rIn_ok) ?_
            | refine NEED.mk ⟨rfl, rfl⟩ ?_
            | refine NEED.mk rfl ?_
            | refine EX.in _ (NEED.mk rfl ?_)
            | refine EX.in _ (EX.in _ (NEED.mk rfl ?_))
            | refine EX.in _ (EX.in _ (EX.in _ (NEED.mk rfl ?_)))
            | refine NEED.mk ⟨trivial, trivial⟩ ?_
            | refine NEED.mk (by unfold inI64; omega) ?_
            | fail)
      all_goals exact hnx _ (by clear hnx hag hI; grind)
    (repeat apply EX.in)
    refine NEED.mk ⟨rfl, rfl⟩ ?_
    have hlj : (t.fields.take j).length = j := by simp; omega
    refine LOOP.toS j (fun (e : Int) j => [.int .i64 e, .int .i64 (j : Int)]) (fun e i => typeF t = if e ≠ 0 then e else if ((t.fields.take j).drop i).any (fun g => decide (g.name = t.fields[j].name)) = true then 7 else fldsF (t.fields.take (j + 1)) (t.fields.drop (j + 1))) e rfl (by rw [hI, he]; grind [fldsF]) ?_
    intro e2 i again2 hi hI2 hag2
    (repeat apply EX.in)
    refine NEED.mk ⟨rfl, rfl⟩ ?_
    refine IFF.mk (fun hb => ?_) (fun hb => ?_) <;> (try simp only [decide_eq_true_eq, decide_eq_false_iff_not, Bool.and_eq_true, Bool.or_eq_true, Bool.not_eq_true', Bool.not_eq_false', Bool.and_eq_false_iff, Bool.or_eq_false_iff, Bool.not_true, Bool.not_false, Int.not_lt, Int.not_le, Decidable.not_not, ne_eq] at hb)
    · have hli : i < (t.fields.take j).length := by (try simp at hb); omega
      have he0 : e2 = 0 := by (try simp at hb); omega
      subst he0
      have hr := (h.fields.take j).cell i hli
      have hd2 := drop_step hli
      refine NEED.mk ⟨hr.ne, by omega, by omega⟩ ?_
      (repeat apply EX.in)
      refine NEED.mk (by first | exact (ReadsAt.sub hr (0) (by simp) rfl).up | exact ReadsAt.sub hr (0) (by simp) rfl) ?_
      refine IFF.mk (fun hb => ?_) (fun hb => ?_) <;> (try simp only [decide_eq_true_eq, decide_eq_false_iff_not, Bool.and_eq_true, Bool.or_eq_true, Bool.not_eq_true', Bool.not_eq_false', Bool.and_eq_false_iff, Bool.or_eq_false_iff, Bool.not_true, Bool.not_false, Int.not_lt, Int.not_le, Decidable.not_not, ne_eq] at hb)
      · refine NEED.mk (by unfold inI64; omega) ?_
        refine NEED.mk ⟨rfl, rfl⟩ ?_
        exact hag2 7 (by omega) (by grind)
      · refine NEED.mk (by unfold inI64; omega) ?_
        refine NEED.mk ⟨rfl, rfl⟩ ?_
        exact hag2 0 (by omega) (by grind)
    · refine NEED.mk (by unfold inI64; omega) ?_
      refine NEED.mk ⟨rfl, rfl⟩ ?_
      refine hag e2 hlt ?_
      by_cases h0 : e2 = 0
      · have hd2 := drop_end (j := i) (l := t.fields.take j) (by (try simp at hb); omega)
        grind
      · grind
  · refine ⟨?_, rfl⟩
    by_cases h0 : e = 0
    · have hd := drop_end (j := j) (l := t.fields) (by (try simp at hb); omega)
      grind [fldsF]
    · grind
theorem rNoCondition_ok {c : Cnd} {M L : Mem} : Pure Tryd.prog 69 #[c.toV] M L (.bool (decide c.Empty)) := by
  refine Pure.of (rNoCondition_spec ?_)
  unfold vc_rNoCondition
  refine ⟨?_, rfl⟩
  simp [Cnd.Empty, Opd.Zero, Vl.Zero, Bool.decide_and, Bool.and_assoc, emptyS]
theorem cEmpty_ok {c : Cnd} {M L : Mem} : Pure Tryd.prog 57 #[c.toV] M L (.bool (decide c.Empty)) := by
  refine Pure.of (cEmpty_spec ?_)
  unfold vc_cEmpty
  refine ⟨?_, rfl⟩
  simp [Cnd.Empty, Opd.Zero, Vl.Zero, Bool.decide_and, Bool.and_assoc, emptyS]
theorem cLink_1_ok {A : Option Addr} {c : Nat} {l : List Pat} {s : ByteArray} {n : Nat} {M L : Mem} (hn : n = l.length) (h : Row M Pat.toV 18 A c l) :
    Pure Tryd.prog 60 #[.slice A n c, .string s] M L (.bool (inF l s)) := by
  subst hn
  refine Pure.of (cLink_1_spec ?_)
  unfold vc_cLink_1
  refine LOOP.to l.length (fun j => inF l s = inF (l.drop j) s) (by simp) ?_
  intro j again hj hI hag
  have hlen := (h).len
  (repeat apply EX.in)
  refine NEED.mk ⟨rfl, rfl⟩ ?_
  refine IFF.mk (fun hb => ?_) (fun hb => ?_) <;> (try simp only [decide_eq_true_eq, decide_eq_false_iff_not, Bool.and_eq_true, Bool.or_eq_true, Bool.not_eq_true', Bool.not_eq_false', Bool.and_eq_false_iff, Bool.or_eq_false_iff, Bool.not_true, Bool.not_false, Int.not_lt, Int.not_le, Decidable.not_not, ne_eq] at hb)
  · have hlt : j < l.length := by simpa using hb
    have hr := (h).cell j hlt
    have hd := drop_step hlt
    refine NEED.mk ⟨hr.ne, by omega, by omega⟩ ?_
    (repeat apply EX.in)
    refine NEED.mk (by first | exact hr.up | exact hr) ?_
    refine IFF.mk (fun hb => ?_) (fun hb => ?_) <;> (try simp only [decide_eq_true_eq, decide_eq_false_iff_not, Bool.and_eq_true, Bool.or_eq_true, Bool.not_eq_true', Bool.not_eq_false', Bool.and_eq_false_iff, Bool.or_eq_false_iff, Bool.not_true, Bool.not_false, Int.not_lt, Int.not_le, Decidable.not_not, ne_eq] at hb)
    · refine ⟨?_, rfl⟩; grind [inF]
    · refine NEED.mk (by unfold inI64; omega) ?_
      refine NEED.mk ⟨rfl, rfl⟩ ?_
      exact hag hlt (by grind [inF])
  · have hd := drop_end (j := j) (l := l) (by simpa using hb)
    refine ⟨?_, rfl⟩; grind [inF]
end Go.Proofs.YthaamalgeieijabDoor
