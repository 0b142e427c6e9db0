/- Contracts: the check of a book, by both sides: the same number. No condition. -/
import Derived.Test.YthaamalgeieijabDoorCi
set_option linter.unusedVariables false
set_option linter.unusedSimpArgs false
namespace Go.Proofs.YthaamalgeieijabDoor
open Go

theorem typesF_zero {l : List Typ} : ∀ {pre : List Typ}, typesF pre l = 0 → ∀ t ∈ l, typeF t = 0 := by
  induction l with
  | nil => intro pre _ t ht; cases ht
  | cons x l ih =>
    intro pre h t ht
    rw [typesF] at h
    split at h
    · rename_i h1; exact absurd h h1
    rename_i h1
    split at h
    · cases h
    split at h
    · cases h
    rcases List.mem_cons.1 ht with rfl | ht
    · omega
    · exact ih h t ht
theorem cCheck_ok {b : Bok} {M L : Mem} (hT : Tab M) (hb : b.Ok M) : Pure Tryd.prog 7 #[b.toV] M L (.int .i64 (bookF b)) := by
  refine Pure.of (cCheck_spec ?_)
  unfold vc_cCheck
  have hbk := hb
  have e := bookF.eq_1 b
  refine IFF.mk (fun hb => ?_) (fun hb => ?_) <;> (try simp only [decide_eq_true_eq, decide_eq_false_iff_not, Bool.and_eq_true, Bool.or_eq_true, Bool.not_eq_true', Bool.not_eq_false', Bool.and_eq_false_iff, Bool.or_eq_false_iff, Bool.not_true, Bool.not_false, Int.not_lt, Int.not_le, Decidable.not_not, ne_eq] at hb)
  · exact ⟨by rw [e, if_pos (by omega)], rfl⟩
  rw [if_neg (by omega)] at e
  have h5 : b.rules.length ≤ 5 := by omega
  refine LOOP.to b.types.length (fun j => typesF [] b.types = typesF (b.types.take j) (b.types.drop j)) (by simp) ?_
  intro j again hj hI hag
  have hlen := (hbk.types).len
  (repeat apply EX.in)
  refine NEED.mk ⟨rfl, rfl⟩ ?_
  refine IFF.mk (fun hb => ?_) (fun hb => ?_) <;> (try simp only [decide_eq_true_eq, decide_eq_false_iff_not, Bool.and_eq_true, Bool.or_eq_true, Bool.not_eq_true', Bool.not_eq_false', Bool.and_eq_false_iff, Bool.or_eq_false_iff, Bool.not_true, Bool.not_false, Int.not_lt, Int.not_le, Decidable.not_not, ne_eq] at hb)
  · have hlt : j < b.types.length := by simpa using hb
    have hr := (hbk.types).cell j hlt
    have hd := drop_step hlt
    refine NEED.mk ⟨hr.ne, by omega, by omega⟩ ?_
    have hs := take_step hlt
    have hto := hbk.type _ (List.getElem_mem hlt)
    rw [hd, typesF] at hI
    (repeat apply EX.in)
    refine NEED.mk (by first | exact hr.up | exact hr) ?_
    refine CALL.pure (vCheckType_ok (t := b.types[j]) hto) ?_
    (repeat apply EX.in)
    refine NEED.mk rfl ?_
    refine IFF.mk (fun hb => ?_) (fun hb => ?_) <;> (try simp only [decide_eq_true_eq, decide_eq_false_iff_not, Bool.and_eq_true, Bool.or_eq_true, Bool.not_eq_true', Bool.not_eq_false', Bool.and_eq_false_iff, Bool.or_eq_false_iff, Bool.not_true, Bool.not_false, Int.not_lt, Int.not_le, Decidable.not_not, ne_eq] at hb)
    · rw [if_pos hb] at hI
      exact ⟨by rw [e, hI, if_pos hb], rfl⟩
    rw [if_neg (by omega)] at hI
    refine CALL.pure (pKept_ok (s := b.types[j].name) hT) ?_
    (repeat apply EX.in)
    refine NEED.mk rfl ?_
    have hlf := hto.fields.len
    refine LOOP.toS b.types[j].fields.length (fun (k : Bool) i => [.bool k, .int .i64 (i : Int)]) (fun k i => (keptF b.types[j].name || b.types[j].fields.any (fun f => keptF f.name)) = (!k || (b.types[j].fields.drop i).any (fun f => keptF f.name))) (!keptF b.types[j].name) rfl (by simp) ?_
    intro k i again2 hi hI2 hag2
    (repeat apply EX.in)
    refine NEED.mk ⟨rfl, rfl⟩ ?_
    refine IFF.mk (fun hb => ?_) (fun hb => ?_) <;> (try simp only [decide_eq_true_eq, decide_eq_false_iff_not, Bool.and_eq_true, Bool.or_eq_true, Bool.not_eq_true', Bool.not_eq_false', Bool.and_eq_false_iff, Bool.or_eq_false_iff, Bool.not_true, Bool.not_false, Int.not_lt, Int.not_le, Decidable.not_not, ne_eq] at hb)
    · have hlt2 : i < b.types[j].fields.length := by omega
      have hr2 := hto.fields.cell i hlt2
      have hd2 := drop_step hlt2
      rw [hd2, List.any_cons] at hI2
      refine NEED.mk ⟨hr2.ne, by omega, by omega⟩ ?_
      (repeat apply EX.in)
      refine NEED.mk hr2.up ?_
      refine IFF.mk (fun hb => ?_) (fun hb => ?_) <;> (try simp only [decide_eq_true_eq, decide_eq_false_iff_not, Bool.and_eq_true, Bool.or_eq_true, Bool.not_eq_true', Bool.not_eq_false', Bool.and_eq_false_iff, Bool.or_eq_false_iff, Bool.not_true, Bool.not_false, Int.not_lt, Int.not_le, Decidable.not_not, ne_eq] at hb)
      · refine CALL.pure (pKept_ok (s := b.types[j].fields[i].name) hT) ?_
        (repeat apply EX.in)
        refine NEED.mk rfl ?_
        refine NEED.mk (by unfold inI64; omega) ?_
        refine NEED.mk ⟨rfl, rfl⟩ ?_
        exact hag2 _ hlt2 (by rw [hI2, hb]; cases keptF b.types[j].fields[i].name <;> simp)
      · refine NEED.mk (by unfold inI64; omega) ?_
        refine NEED.mk ⟨rfl, rfl⟩ ?_
        exact hag2 _ hlt2 (by rw [hI2, hb]; simp)
    have hd2 := drop_end (j := i) (l := b.types[j].fields) (by omega)
    rw [hd2, List.any_nil, Bool.or_false] at hI2
    refine IFF.mk (fun hb => ?_) (fun hb => ?_) <;> (try simp only [decide_eq_true_eq, decide_eq_false_iff_not, Bool.and_eq_true, Bool.or_eq_true, Bool.not_eq_true', Bool.not_eq_false', Bool.and_eq_false_iff, Bool.or_eq_false_iff, Bool.not_true, Bool.not_false, Int.not_lt, Int.not_le, Decidable.not_not, ne_eq] at hb)
    · rw [if_pos (by rw [hb] at hI2; simpa using hI2)] at hI
      exact ⟨by rw [e, hI, if_pos (by omega)], rfl⟩
    rw [if_neg (by rw [hb] at hI2; simpa using hI2)] at hI
    have hle := hbk.types.le
    refine NEED.mk ⟨by omega, by omega⟩ ?_
    have hlj : (b.types.take j).length = j := by simp; omega
    refine LOOP.to j (fun i => (b.types.take j).any (fun g => decide (g.name = b.types[j].name)) = ((b.types.take j).drop i).any (fun g => decide (g.name = b.types[j].name))) (by simp) ?_
    intro i again2 hi hI2 hag2
    (repeat apply EX.in)
    refine NEED.mk ⟨rfl, rfl⟩ ?_
    refine IFF.mk (fun hb => ?_) (fun hb => ?_) <;> (try simp only [decide_eq_true_eq, decide_eq_false_iff_not, Bool.and_eq_true, Bool.or_eq_true, Bool.not_eq_true', Bool.not_eq_false', Bool.and_eq_false_iff, Bool.or_eq_false_iff, Bool.not_true, Bool.not_false, Int.not_lt, Int.not_le, Decidable.not_not, ne_eq] at hb)
    · have hli : i < (b.types.take j).length := by simp at hb; omega
      have hr := (hbk.types.take j).cell i hli
      have hd2 := drop_step hli
      rw [hd2, List.any_cons] at hI2
      refine NEED.mk ⟨hr.ne, by omega, by simp; omega⟩ ?_
      (repeat apply EX.in)
      refine NEED.mk (by first | exact hr.up | exact hr) ?_
      refine IFF.mk (fun hb => ?_) (fun hb => ?_) <;> (try simp only [decide_eq_true_eq, decide_eq_false_iff_not, Bool.and_eq_true, Bool.or_eq_true, Bool.not_eq_true', Bool.not_eq_false', Bool.and_eq_false_iff, Bool.or_eq_false_iff, Bool.not_true, Bool.not_false, Int.not_lt, Int.not_le, Decidable.not_not, ne_eq] at hb)
      · rw [if_pos (by rw [hI2, Bool.or_eq_true]; exact .inl (decide_eq_true hb))] at hI
        exact ⟨by rw [e, hI, if_pos (by omega)], rfl⟩
      · refine NEED.mk (by unfold inI64; omega) ?_
        refine NEED.mk ⟨rfl, rfl⟩ ?_
        exact hag2 (by omega) (by rw [hI2]; exact (congrArg (· || _) (decide_eq_false hb)).trans (Bool.false_or _))
    · have hd2 := drop_end (j := i) (l := b.types.take j) (by simp at hb; omega)
      rw [hd2, List.any_nil] at hI2
      rw [if_neg (by rw [hI2]; simp)] at hI
      refine NEED.mk (by unfold inI64; omega) ?_
      refine NEED.mk ⟨rfl, rfl⟩ ?_
      exact hag hlt (by rw [hI, hs])
  have hd := drop_end (j := j) (l := b.types) (by simpa using hb)
  rw [hd, typesF] at hI
  have hfine := typesF_zero hI
  rw [if_neg (by omega)] at e
  refine LOOP.to b.rules.length (fun j => rulesF b.types [] b.rules = rulesF b.types (b.rules.take j) (b.rules.drop j)) (by simp) ?_
  intro j again hj hI hag
  have hlen := (hbk.rules).len
  (repeat apply EX.in)
  refine NEED.mk ⟨rfl, rfl⟩ ?_
  refine IFF.mk (fun hb => ?_) (fun hb => ?_) <;> (try simp only [decide_eq_true_eq, decide_eq_false_iff_not, Bool.and_eq_true, Bool.or_eq_true, Bool.not_eq_true', Bool.not_eq_false', Bool.and_eq_false_iff, Bool.or_eq_false_iff, Bool.not_true, Bool.not_false, Int.not_lt, Int.not_le, Decidable.not_not, ne_eq] at hb)
  · have hlt : j < b.rules.length := by simpa using hb
    have hr := (hbk.rules).cell j hlt
    have hd := drop_step hlt
    refine NEED.mk ⟨hr.ne, by omega, by omega⟩ ?_
    have hs := take_step hlt
    have hxo := hbk.rule _ (List.getElem_mem hlt)
    rw [hd, rulesF] at hI
    (repeat apply EX.in)
    refine NEED.mk (by first | exact hr.up | exact hr) ?_
    refine CALL.pure (cRule_ok (x := b.rules[j]) (by rfl) hT hbk.types hbk.type hfine hxo) ?_
    (repeat apply EX.in)
    refine NEED.mk rfl ?_
    refine IFF.mk (fun hb => ?_) (fun hb => ?_) <;> (try simp only [decide_eq_true_eq, decide_eq_false_iff_not, Bool.and_eq_true, Bool.or_eq_true, Bool.not_eq_true', Bool.not_eq_false', Bool.and_eq_false_iff, Bool.or_eq_false_iff, Bool.not_true, Bool.not_false, Int.not_lt, Int.not_le, Decidable.not_not, ne_eq] at hb)
    · rw [if_pos hb] at hI
      exact ⟨by rw [e, hI, if_pos hb], rfl⟩
    rw [if_neg (by omega)] at hI
    have hle := hbk.rules.le
    refine NEED.mk ⟨by omega, by omega⟩ ?_
    have hlj : (b.rules.take j).length = j := by simp; omega
    refine LOOP.to j (fun i => (b.rules.take j).any (fun g => decide (g.name = b.rules[j].name)) = ((b.rules.take j).drop i).any (fun g => decide (g.name = b.rules[j].name))) (by simp) ?_
    intro i again2 hi hI2 hag2
    (repeat apply EX.in)
    refine NEED.mk ⟨rfl, rfl⟩ ?_
    refine IFF.mk (fun hb => ?_) (fun hb => ?_) <;> (try simp only [decide_eq_true_eq, decide_eq_false_iff_not, Bool.and_eq_true, Bool.or_eq_true, Bool.not_eq_true', Bool.not_eq_false', Bool.and_eq_false_iff, Bool.or_eq_false_iff, Bool.not_true, Bool.not_false, Int.not_lt, Int.not_le, Decidable.not_not, ne_eq] at hb)
    · have hli : i < (b.rules.take j).length := by simp at hb; omega
      have hr := (hbk.rules.take j).cell i hli
      have hd2 := drop_step hli
      rw [hd2, List.any_cons] at hI2
      refine NEED.mk ⟨hr.ne, by omega, by simp; omega⟩ ?_
      (repeat apply EX.in)
      refine NEED.mk (by first | exact hr.up | exact hr) ?_
      refine IFF.mk (fun hb => ?_) (fun hb => ?_) <;> (try simp only [decide_eq_true_eq, decide_eq_false_iff_not, Bool.and_eq_true, Bool.or_eq_true, Bool.not_eq_true', Bool.not_eq_false', Bool.and_eq_false_iff, Bool.or_eq_false_iff, Bool.not_true, Bool.not_false, Int.not_lt, Int.not_le, Decidable.not_not, ne_eq] at hb)
      · rw [if_pos (by rw [hI2, Bool.or_eq_true]; exact .inl (decide_eq_true hb))] at hI
        exact ⟨by rw [e, hI, if_pos (by omega)], rfl⟩
      · refine NEED.mk (by unfold inI64; omega) ?_
        refine NEED.mk ⟨rfl, rfl⟩ ?_
        exact hag2 (by omega) (by rw [hI2]; exact (congrArg (· || _) (decide_eq_false hb)).trans (Bool.false_or _))
    · have hd2 := drop_end (j := i) (l := b.rules.take j) (by simp at hb; omega)
      rw [hd2, List.any_nil] at hI2
      rw [if_neg (by rw [hI2]; simp)] at hI
      refine NEED.mk (by unfold inI64; omega) ?_
      refine NEED.mk ⟨rfl, rfl⟩ ?_
      exact hag hlt (by rw [hI, hs])
  have hd := drop_end (j := j) (l := b.rules) (by simpa using hb)
  rw [hd, rulesF] at hI
  rw [if_neg (by omega)] at e
  refine CALL.pure (cEndless_ok hbk h5) ?_
  (repeat apply EX.in)
  refine NEED.mk rfl ?_
  refine IFF.mk (fun hb => ?_) (fun hb => ?_) <;> (try simp only [decide_eq_true_eq, decide_eq_false_iff_not, Bool.and_eq_true, Bool.or_eq_true, Bool.not_eq_true', Bool.not_eq_false', Bool.and_eq_false_iff, Bool.or_eq_false_iff, Bool.not_true, Bool.not_false, Int.not_lt, Int.not_le, Decidable.not_not, ne_eq] at hb)
  · exact ⟨by unfold endlessF at hb; rw [e, if_pos hb], rfl⟩
  · exact ⟨by unfold endlessF at hb; rw [e, hb]; rfl, rfl⟩
theorem rBookFault_ok {b : Bok} {M L : Mem} (hb : b.Ok M) : Pure Tryd.prog 10 #[b.toV] M L (.int .i64 (bookF b)) := by
  refine Pure.of (rBookFault_spec ?_)
  unfold vc_rBookFault
  have hbk := hb
  have e := bookF.eq_1 b
  refine IFF.mk (fun hb => ?_) (fun hb => ?_) <;> (try simp only [decide_eq_true_eq, decide_eq_false_iff_not, Bool.and_eq_true, Bool.or_eq_true, Bool.not_eq_true', Bool.not_eq_false', Bool.and_eq_false_iff, Bool.or_eq_false_iff, Bool.not_true, Bool.not_false, Int.not_lt, Int.not_le, Decidable.not_not, ne_eq] at hb)
  · exact ⟨by rw [e, if_pos (by omega)], rfl⟩
  rw [if_neg (by omega)] at e
  have h5 : b.rules.length ≤ 5 := by omega
  refine LOOP.to b.types.length (fun j => typesF [] b.types = typesF (b.types.take j) (b.types.drop j)) (by simp) ?_
  intro j again hj hI hag
  have hlen := (hbk.types).len
  (repeat apply EX.in)
  refine NEED.mk ⟨rfl, rfl⟩ ?_
  refine IFF.mk (fun hb => ?_) (fun hb => ?_) <;> (try simp only [decide_eq_true_eq, decide_eq_false_iff_not, Bool.and_eq_true, Bool.or_eq_true, Bool.not_eq_true', Bool.not_eq_false', Bool.and_eq_false_iff, Bool.or_eq_false_iff, Bool.not_true, Bool.not_false, Int.not_lt, Int.not_le, Decidable.not_not, ne_eq] at hb)
  · have hlt : j < b.types.length := by simpa using hb
    have hr := (hbk.types).cell j hlt
    have hd := drop_step hlt
    refine NEED.mk ⟨hr.ne, by omega, by omega⟩ ?_
    have hs := take_step hlt
    have hto := hbk.type _ (List.getElem_mem hlt)
    rw [hd, typesF] at hI
    (repeat apply EX.in)
    refine NEED.mk (by first | exact hr.up | exact hr) ?_
    refine CALL.pure (rTypeFault_ok (t := b.types[j]) hto) ?_
    (repeat apply EX.in)
    refine NEED.mk rfl ?_
    refine IFF.mk (fun hb => ?_) (fun hb => ?_) <;> (try simp only [decide_eq_true_eq, decide_eq_false_iff_not, Bool.and_eq_true, Bool.or_eq_true, Bool.not_eq_true', Bool.not_eq_false', Bool.and_eq_false_iff, Bool.or_eq_false_iff, Bool.not_true, Bool.not_false, Int.not_lt, Int.not_le, Decidable.not_not, ne_eq] at hb)
    · rw [if_pos hb] at hI
      exact ⟨by rw [e, hI, if_pos hb], rfl⟩
    rw [if_neg (by omega)] at hI
    refine CALL.pure (rKeptWord_ok (s := b.types[j].name)) ?_
    (repeat apply EX.in)
    refine NEED.mk rfl ?_
    refine IFF.mk (fun hb => ?_) (fun hb => ?_) <;> (try simp only [decide_eq_true_eq, decide_eq_false_iff_not, Bool.and_eq_true, Bool.or_eq_true, Bool.not_eq_true', Bool.not_eq_false', Bool.and_eq_false_iff, Bool.or_eq_false_iff, Bool.not_true, Bool.not_false, Int.not_lt, Int.not_le, Decidable.not_not, ne_eq] at hb)
    · rw [if_pos (.inl hb)] at hI
      exact ⟨by rw [e, hI, if_pos (by omega)], rfl⟩
    have hk1 := hb
    have hlf := hto.fields.len
    refine LOOP.to b.types[j].fields.length (fun i => b.types[j].fields.any (fun f => keptF f.name) = (b.types[j].fields.drop i).any (fun f => keptF f.name)) (by simp) ?_
    intro i again2 hi hI2 hag2
    (repeat apply EX.in)
    refine NEED.mk ⟨rfl, rfl⟩ ?_
    refine IFF.mk (fun hb => ?_) (fun hb => ?_) <;> (try simp only [decide_eq_true_eq, decide_eq_false_iff_not, Bool.and_eq_true, Bool.or_eq_true, Bool.not_eq_true', Bool.not_eq_false', Bool.and_eq_false_iff, Bool.or_eq_false_iff, Bool.not_true, Bool.not_false, Int.not_lt, Int.not_le, Decidable.not_not, ne_eq] at hb)
    · have hlt2 : i < b.types[j].fields.length := by omega
      have hr2 := hto.fields.cell i hlt2
      have hd2 := drop_step hlt2
      rw [hd2, List.any_cons] at hI2
      refine NEED.mk ⟨hr2.ne, by omega, by omega⟩ ?_
      (repeat apply EX.in)
      refine NEED.mk (ReadsAt.sub hr2 0 (by simp) rfl).up ?_
      refine CALL.pure (rKeptWord_ok (s := b.types[j].fields[i].name)) ?_
      (repeat apply EX.in)
      refine NEED.mk rfl ?_
      refine IFF.mk (fun hb => ?_) (fun hb => ?_) <;> (try simp only [decide_eq_true_eq, decide_eq_false_iff_not, Bool.and_eq_true, Bool.or_eq_true, Bool.not_eq_true', Bool.not_eq_false', Bool.and_eq_false_iff, Bool.or_eq_false_iff, Bool.not_true, Bool.not_false, Int.not_lt, Int.not_le, Decidable.not_not, ne_eq] at hb)
      · rw [if_pos (.inr (by rw [hI2, hb]; rfl))] at hI
        exact ⟨by rw [e, hI, if_pos (by omega)], rfl⟩
      · refine NEED.mk (by unfold inI64; omega) ?_
        refine NEED.mk ⟨rfl, rfl⟩ ?_
        exact hag2 hlt2 (by rw [hI2, hb]; rfl)
    have hd2 := drop_end (j := i) (l := b.types[j].fields) (by omega)
    rw [hd2, List.any_nil] at hI2
    rw [if_neg (by rw [hk1, hI2]; simp)] at hI
    have hle := hbk.types.le
    refine NEED.mk ⟨by omega, by omega⟩ ?_
    refine CALL.pure (rTypeNamed_ok (types := b.types.take j) (s := b.types[j].name) (by simp; omega) (hbk.types.take j)) ?_
    (repeat apply EX.in)
    refine NEED.mk rfl ?_
    have ha := idxF_any (p := fun t : Typ => decide (t.name = b.types[j].name)) (l := b.types.take j) (j := 0)
    refine IFF.mk (fun hb => ?_) (fun hb => ?_)
    · rw [ha] at hb
      rw [if_pos hb] at hI
      exact ⟨by rw [e, hI, if_pos (by omega)], rfl⟩
    · rw [ha] at hb
      rw [if_neg (by rw [hb]; simp)] at hI
      refine NEED.mk (by unfold inI64; omega) ?_
      refine NEED.mk ⟨rfl, rfl⟩ ?_
      exact hag hlt (by rw [hI, hs])
  have hd := drop_end (j := j) (l := b.types) (by simpa using hb)
  rw [hd, typesF] at hI
  rw [if_neg (by omega)] at e
  refine LOOP.to b.rules.length (fun j => rulesF b.types [] b.rules = rulesF b.types (b.rules.take j) (b.rules.drop j)) (by simp) ?_
  intro j again hj hI hag
  have hlen := (hbk.rules).len
  (repeat apply EX.in)
  refine NEED.mk ⟨rfl, rfl⟩ ?_
  refine IFF.mk (fun hb => ?_) (fun hb => ?_) <;> (try simp only [decide_eq_true_eq, decide_eq_false_iff_not, Bool.and_eq_true, Bool.or_eq_true, Bool.not_eq_true', Bool.not_eq_false', Bool.and_eq_false_iff, Bool.or_eq_false_iff, Bool.not_true, Bool.not_false, Int.not_lt, Int.not_le, Decidable.not_not, ne_eq] at hb)
  · have hlt : j < b.rules.length := by simpa using hb
    have hr := (hbk.rules).cell j hlt
    have hd := drop_step hlt
    refine NEED.mk ⟨hr.ne, by omega, by omega⟩ ?_
    have hs := take_step hlt
    have hxo := hbk.rule _ (List.getElem_mem hlt)
    rw [hd, rulesF] at hI
    (repeat apply EX.in)
    refine NEED.mk (by first | exact hr.up | exact hr) ?_
    refine CALL.pure (rRuleFault_ok (x := b.rules[j]) (by rfl) hbk.types hbk.type hxo) ?_
    (repeat apply EX.in)
    refine NEED.mk rfl ?_
    refine IFF.mk (fun hb => ?_) (fun hb => ?_) <;> (try simp only [decide_eq_true_eq, decide_eq_false_iff_not, Bool.and_eq_true, Bool.or_eq_true, Bool.not_eq_true', Bool.not_eq_false', Bool.and_eq_false_iff, Bool.or_eq_false_iff, Bool.not_true, Bool.not_false, Int.not_lt, Int.not_le, Decidable.not_not, ne_eq] at hb)
    · rw [if_pos hb] at hI
      exact ⟨by rw [e, hI, if_pos hb], rfl⟩
    rw [if_neg (by omega)] at hI
    have hlj : (b.rules.take j).length = j := by simp; omega
    have hrj := hr
    refine LOOP.to j (fun i => (b.rules.take j).any (fun g => decide (g.name = b.rules[j].name)) = ((b.rules.take j).drop i).any (fun g => decide (g.name = b.rules[j].name))) (by simp) ?_
    intro i again2 hi hI2 hag2
    (repeat apply EX.in)
    refine NEED.mk ⟨rfl, rfl⟩ ?_
    refine IFF.mk (fun hb => ?_) (fun hb => ?_) <;> (try simp only [decide_eq_true_eq, decide_eq_false_iff_not, Bool.and_eq_true, Bool.or_eq_true, Bool.not_eq_true', Bool.not_eq_false', Bool.and_eq_false_iff, Bool.or_eq_false_iff, Bool.not_true, Bool.not_false, Int.not_lt, Int.not_le, Decidable.not_not, ne_eq] at hb)
    · have hli : i < (b.rules.take j).length := by simp at hb; omega
      have hr := (hbk.rules.take j).cell i hli
      have hd2 := drop_step hli
      rw [hd2, List.any_cons] at hI2
      refine NEED.mk ⟨hr.ne, by omega, by omega⟩ ?_
      (repeat apply EX.in)
      refine NEED.mk (by first | exact (ReadsAt.sub hr (0) (by simp) rfl).up | exact ReadsAt.sub hr (0) (by simp) rfl) ?_
      refine NEED.mk ⟨hr.ne, by omega, by omega⟩ ?_
      (repeat apply EX.in)
      refine NEED.mk (ReadsAt.sub hrj 0 (by simp) rfl) ?_
      refine IFF.mk (fun hb => ?_) (fun hb => ?_) <;> (try simp only [decide_eq_true_eq, decide_eq_false_iff_not, Bool.and_eq_true, Bool.or_eq_true, Bool.not_eq_true', Bool.not_eq_false', Bool.and_eq_false_iff, Bool.or_eq_false_iff, Bool.not_true, Bool.not_false, Int.not_lt, Int.not_le, Decidable.not_not, ne_eq] at hb)
      · rw [if_pos (by rw [hI2, Bool.or_eq_true]; exact .inl (decide_eq_true hb))] at hI
        exact ⟨by rw [e, hI, if_pos (by omega)], rfl⟩
      · refine NEED.mk (by unfold inI64; omega) ?_
        refine NEED.mk ⟨rfl, rfl⟩ ?_
        exact hag2 (by omega) (by rw [hI2]; exact (congrArg (· || _) (decide_eq_false hb)).trans (Bool.false_or _))
    · have hd2 := drop_end (j := i) (l := b.rules.take j) (by simp at hb; omega)
      rw [hd2, List.any_nil] at hI2
      rw [if_neg (by rw [hI2]; simp)] at hI
      refine NEED.mk (by unfold inI64; omega) ?_
      refine NEED.mk ⟨rfl, rfl⟩ ?_
      exact hag hlt (by rw [hI, hs])
  have hd := drop_end (j := j) (l := b.rules) (by simpa using hb)
  rw [hd, rulesF] at hI
  rw [if_neg (by omega)] at e
  refine LOOP.to b.types.length (fun j => b.types.any (fun t => comesF b.rules t.name b.rules.length t.name) = (b.types.drop j).any (fun t => comesF b.rules t.name b.rules.length t.name)) (by simp) ?_
  intro j again hj hI hag
  have hlen := (hbk.types).len
  (repeat apply EX.in)
  refine NEED.mk ⟨rfl, rfl⟩ ?_
  refine IFF.mk (fun hb => ?_) (fun hb => ?_) <;> (try simp only [decide_eq_true_eq, decide_eq_false_iff_not, Bool.and_eq_true, Bool.or_eq_true, Bool.not_eq_true', Bool.not_eq_false', Bool.and_eq_false_iff, Bool.or_eq_false_iff, Bool.not_true, Bool.not_false, Int.not_lt, Int.not_le, Decidable.not_not, ne_eq] at hb)
  · have hlt : j < b.types.length := by simpa using hb
    have hr := (hbk.types).cell j hlt
    have hd := drop_step hlt
    refine NEED.mk ⟨hr.ne, by omega, by omega⟩ ?_
    rw [hd, List.any_cons] at hI
    (repeat apply EX.in)
    refine NEED.mk (by first | exact (ReadsAt.sub hr (0) (by simp) rfl).up | exact ReadsAt.sub hr (0) (by simp) rfl) ?_
    refine NEED.mk ⟨hr.ne, by omega, by omega⟩ ?_
    (repeat apply EX.in)
    refine NEED.mk (by first | exact (ReadsAt.sub hr (0) (by simp) rfl).up | exact ReadsAt.sub hr (0) (by simp) rfl) ?_
    refine CALL.pure (rComesOf_ok hbk b.types[j].name b.rules.length b.types[j].name (by omega)) ?_
    (repeat apply EX.in)
    refine NEED.mk rfl ?_
    refine IFF.mk (fun hb => ?_) (fun hb => ?_) <;> (try simp only [decide_eq_true_eq, decide_eq_false_iff_not, Bool.and_eq_true, Bool.or_eq_true, Bool.not_eq_true', Bool.not_eq_false', Bool.and_eq_false_iff, Bool.or_eq_false_iff, Bool.not_true, Bool.not_false, Int.not_lt, Int.not_le, Decidable.not_not, ne_eq] at hb)
    · exact ⟨by rw [e, hI, hb]; rfl, rfl⟩
    · refine NEED.mk (by unfold inI64; omega) ?_
      refine NEED.mk ⟨rfl, rfl⟩ ?_
      exact hag hlt (by rw [hI, hb]; rfl)
  · have hd := drop_end (j := j) (l := b.types) (by simpa using hb)
    exact ⟨by rw [e, hI, hd]; rfl, rfl⟩
end Go.Proofs.YthaamalgeieijabDoor
