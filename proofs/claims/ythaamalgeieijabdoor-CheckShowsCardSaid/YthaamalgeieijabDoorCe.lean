/- Contracts: what a rule emits; uses. No condition. -/
import Derived.Test.YthaamalgeieijabDoorCd
set_option linter.unusedVariables false
set_option linter.unusedSimpArgs false
namespace Go.Proofs.YthaamalgeieijabDoor
open Go

theorem typedF_idx {types : List Typ} {s : ByteArray} : (idxF (fun t : Typ => decide (t.name = s)) 0 types < 0 ∧ typedF types s = none) ∨
    ∃ i, ∃ h : i < types.length, idxF (fun t : Typ => decide (t.name = s)) 0 types = (i : Int) ∧ typedF types s = some types[i] := by
  rcases idxF_find (p := fun t : Typ => decide (t.name = s)) (l := types) (j := 0) with h | ⟨i, hi, h1, _, h3⟩
  · exact .inl h
  · exact .inr ⟨i, hi, by rw [h1, Nat.zero_add], h3⟩
theorem evalsF_step {env : Envs} {t : Typ} {fs : List Fld} {os : List Opd} {j : Nat} (h1 : j < fs.length) (h2 : j < os.length) : evalsF env t (fs.drop j) (os.drop j) =
    if os[j].kind = 2 then 4 else if (sideF env t os[j]).2 ≠ 0 then (sideF env t os[j]).2 else if (sideF env t os[j]).1 ≠ fs[j].kind then 13 else evalsF env t (fs.drop (j + 1)) (os.drop (j + 1)) := by
  rw [drop_step h1, drop_step h2, evalsF]
theorem evalsF_end {env : Envs} {t : Typ} {fs : List Fld} {os : List Opd} {j : Nat} (h2 : ¬ j < os.length) : evalsF env t (fs.drop j) (os.drop j) = 0 := by
  rw [drop_end h2]
  unfold evalsF
  split
  · rename_i h; cases h
  · rfl
theorem sEmit_ok {p tA : Option Addr} {r : Nat} {types : List Typ} {tc : Nat} {env : Envs} {x : Rul} {M L : Mem} (h : Scope M L p r tA types tc env) (hx : x.Ok M) :
    Pure Tryd.prog 38 #[.pointer p, .agg #[.string x.etype, .slice x.eA x.evals.length x.ec]] M L (.int .i64 (emitF types env x)) := by
  refine Pure.of (sEmit_spec ?_)
  unfold vc_sEmit
  have e := emitF.eq_1 types env x
  have hlo := hx.evals.len
  refine IFF.mk (fun hb => ?_) (fun hb => ?_) <;> (try simp only [decide_eq_true_eq, decide_eq_false_iff_not, Bool.and_eq_true, Bool.or_eq_true, Bool.not_eq_true', Bool.not_eq_false', Bool.and_eq_false_iff, Bool.or_eq_false_iff, Bool.not_true, Bool.not_false, Int.not_lt, Int.not_le, Decidable.not_not, ne_eq] at hb)
  · rw [if_pos hb] at e
    refine IFF.mk (fun hb => ?_) (fun hb => ?_) <;> (try simp only [decide_eq_true_eq, decide_eq_false_iff_not, Bool.and_eq_true, Bool.or_eq_true, Bool.not_eq_true', Bool.not_eq_false', Bool.and_eq_false_iff, Bool.or_eq_false_iff, Bool.not_true, Bool.not_false, Int.not_lt, Int.not_le, Decidable.not_not, ne_eq] at hb)
    · exact ⟨by rw [e, if_pos (by omega)], rfl⟩
    · exact ⟨by rw [e, if_neg (by omega)], rfl⟩
  rw [if_neg hb] at e
  refine CALL.pure (sTyped_ok (s := x.etype) h.at_.up h.row) ?_
  cases ht : typedF types x.etype with
  | none =>
    rw [typedV, ht]
    rw [ht] at e
    (repeat apply EX.in)
    refine NEED.mk rfl ?_
    exact IFF.yes' (by simp) ⟨by rw [e], rfl⟩
  | some t =>
    rw [typedV, ht]
    rw [ht] at e
    dsimp only at e
    (repeat apply EX.in)
    refine NEED.mk rfl ?_
    refine IFF.no' (by simp) ?_
    have htm := typedF_mem ht
    have htok := h.ok t htm
    refine IFF.mk (fun hb => ?_) (fun hb => ?_) <;> (try simp only [decide_eq_true_eq, decide_eq_false_iff_not, Bool.and_eq_true, Bool.or_eq_true, Bool.not_eq_true', Bool.not_eq_false', Bool.and_eq_false_iff, Bool.or_eq_false_iff, Bool.not_true, Bool.not_false, Int.not_lt, Int.not_le, Decidable.not_not, ne_eq] at hb)
    · exact ⟨by rw [e, if_pos (by omega)], rfl⟩
    rw [if_neg (by omega)] at e
    rw [e]
    have hlen2 : x.evals.length = t.fields.length := by omega
    refine LOOP.to x.evals.length (fun j => evalsF env t t.fields x.evals = evalsF env t (t.fields.drop j) (x.evals.drop j)) (by simp) ?_
    intro j again hj hI hag
    have hlen := (hx.evals).len
    (repeat apply EX.in)
    refine NEED.mk ⟨rfl, rfl⟩ ?_
    refine IFF.mk (fun hb => ?_) (fun hb => ?_) <;> (try simp only [decide_eq_true_eq, decide_eq_false_iff_not, Bool.and_eq_true, Bool.or_eq_true, Bool.not_eq_true', Bool.not_eq_false', Bool.and_eq_false_iff, Bool.or_eq_false_iff, Bool.not_true, Bool.not_false, Int.not_lt, Int.not_le, Decidable.not_not, ne_eq] at hb)
    · have hlt : j < x.evals.length := by simpa using hb
      have hr := (hx.evals).cell j hlt
      have hd := drop_step hlt
      refine NEED.mk ⟨hr.ne, by omega, by omega⟩ ?_
      have hltf : j < t.fields.length := by omega
      rw [evalsF_step hltf hlt] at hI
      rw [hI]
      (repeat apply EX.in)
      refine NEED.mk (by first | exact hr.up | exact hr) ?_
      refine IFF.mk (fun hb => ?_) (fun hb => ?_) <;> (try simp only [decide_eq_true_eq, decide_eq_false_iff_not, Bool.and_eq_true, Bool.or_eq_true, Bool.not_eq_true', Bool.not_eq_false', Bool.and_eq_false_iff, Bool.or_eq_false_iff, Bool.not_true, Bool.not_false, Int.not_lt, Int.not_le, Decidable.not_not, ne_eq] at hb)
      · exact ⟨by rw [if_pos hb], rfl⟩
      rw [if_neg hb] at hI ⊢
      refine CALL.pure (sSide_ok (o := x.evals[j]) (own := t) h htm) ?_
      (repeat apply EX.in)
      refine NEED.mk rfl ?_
      refine IFF.mk (fun hb => ?_) (fun hb => ?_) <;> (try simp only [decide_eq_true_eq, decide_eq_false_iff_not, Bool.and_eq_true, Bool.or_eq_true, Bool.not_eq_true', Bool.not_eq_false', Bool.and_eq_false_iff, Bool.or_eq_false_iff, Bool.not_true, Bool.not_false, Int.not_lt, Int.not_le, Decidable.not_not, ne_eq] at hb)
      · exact ⟨by rw [if_pos hb], rfl⟩
      rw [if_neg (by omega)] at hI ⊢
      have hr := htok.fields.cell j hltf
      refine NEED.mk ⟨hr.ne, by omega, by omega⟩ ?_
      (repeat apply EX.in)
      refine NEED.mk (by first | exact (ReadsAt.sub hr (1) (by simp) rfl).up | exact ReadsAt.sub hr (1) (by simp) rfl) ?_
      refine IFF.mk (fun hb => ?_) (fun hb => ?_) <;> (try simp only [decide_eq_true_eq, decide_eq_false_iff_not, Bool.and_eq_true, Bool.or_eq_true, Bool.not_eq_true', Bool.not_eq_false', Bool.and_eq_false_iff, Bool.or_eq_false_iff, Bool.not_true, Bool.not_false, Int.not_lt, Int.not_le, Decidable.not_not, ne_eq] at hb)
      · exact ⟨by rw [if_pos hb], rfl⟩
      rw [if_neg (by omega)] at hI
      refine NEED.mk (by unfold inI64; omega) ?_
      refine NEED.mk ⟨rfl, rfl⟩ ?_
      exact hag hlt hI
    · exact ⟨by rw [hI, evalsF_end (by omega)], rfl⟩
theorem rEmitFault_ok {tA : Option Addr} {types : List Typ} {tc tn : Nat} {x : Rul} {M L : Mem} (htn : tn = types.length) (h : Row M Typ.toV 2 tA tc types) (hok : ∀ t ∈ types, t.Ok M) (hx : x.Ok M) (hks : ∀ q ∈ x.whens, typedF types q.type ≠ none) :
    Pure Tryd.prog 51 #[.slice tA tn tc, x.toV] M L (.int .i64 (emitF types (envF types x.whens) x)) := by
  subst htn
  refine Pure.of (rEmitFault_spec ?_)
  unfold vc_rEmitFault
  have e := emitF.eq_1 types (envF types x.whens) x
  have hlo := hx.evals.len
  refine IFF.mk (fun hb => ?_) (fun hb => ?_) <;> (try simp only [decide_eq_true_eq, decide_eq_false_iff_not, Bool.and_eq_true, Bool.or_eq_true, Bool.not_eq_true', Bool.not_eq_false', Bool.and_eq_false_iff, Bool.or_eq_false_iff, Bool.not_true, Bool.not_false, Int.not_lt, Int.not_le, Decidable.not_not, ne_eq] at hb)
  · rw [if_pos hb] at e
    refine IFF.mk (fun hb => ?_) (fun hb => ?_) <;> (try simp only [decide_eq_true_eq, decide_eq_false_iff_not, Bool.and_eq_true, Bool.or_eq_true, Bool.not_eq_true', Bool.not_eq_false', Bool.and_eq_false_iff, Bool.or_eq_false_iff, Bool.not_true, Bool.not_false, Int.not_lt, Int.not_le, Decidable.not_not, ne_eq] at hb)
    · exact ⟨by rw [e, if_pos (by omega)], rfl⟩
    · exact ⟨by rw [e, if_neg (by omega)], rfl⟩
  rw [if_neg hb] at e
  refine CALL.pure (rTypeNamed_ok (s := x.etype) (by rfl) h) ?_
  (repeat apply EX.in)
  refine NEED.mk rfl ?_
  rcases typedF_idx (types := types) (s := x.etype) with ⟨h1, h2⟩ | ⟨i, hi, h1, h2⟩
  · rw [h2] at e
    exact IFF.yes' (by simpa using h1) ⟨by rw [e], rfl⟩
  · rw [h2] at e
    dsimp only at e
    rw [h1]
    refine IFF.no' (by simp) ?_
    have hrt := h.cell i hi
    have htok := hok _ (List.getElem_mem hi)
    refine NEED.mk ⟨hrt.ne, by omega, by omega⟩ ?_
    have hr := hrt
    (repeat apply EX.in)
    refine NEED.mk (by first | exact (ReadsAt.sub hr (1) (by simp) rfl).up | exact ReadsAt.sub hr (1) (by simp) rfl) ?_
    refine IFF.mk (fun hb => ?_) (fun hb => ?_) <;> (try simp only [decide_eq_true_eq, decide_eq_false_iff_not, Bool.and_eq_true, Bool.or_eq_true, Bool.not_eq_true', Bool.not_eq_false', Bool.and_eq_false_iff, Bool.or_eq_false_iff, Bool.not_true, Bool.not_false, Int.not_lt, Int.not_le, Decidable.not_not, ne_eq] at hb)
    · exact ⟨by rw [e, if_pos (by omega)], rfl⟩
    rw [if_neg (by omega)] at e
    rw [e]
    have hlen2 : x.evals.length = types[i].fields.length := by omega
    refine LOOP.to x.evals.length (fun j => evalsF (envF types x.whens) types[i] types[i].fields x.evals = evalsF (envF types x.whens) types[i] (types[i].fields.drop j) (x.evals.drop j)) (by simp) ?_
    intro j again hj hI hag
    have hlen := (hx.evals).len
    (repeat apply EX.in)
    refine NEED.mk ⟨rfl, rfl⟩ ?_
    refine IFF.mk (fun hb => ?_) (fun hb => ?_) <;> (try simp only [decide_eq_true_eq, decide_eq_false_iff_not, Bool.and_eq_true, Bool.or_eq_true, Bool.not_eq_true', Bool.not_eq_false', Bool.and_eq_false_iff, Bool.or_eq_false_iff, Bool.not_true, Bool.not_false, Int.not_lt, Int.not_le, Decidable.not_not, ne_eq] at hb)
    · have hlt : j < x.evals.length := by simpa using hb
      have hr := (hx.evals).cell j hlt
      have hd := drop_step hlt
      refine NEED.mk ⟨hr.ne, by omega, by omega⟩ ?_
      have hltf : j < types[i].fields.length := by omega
      rw [evalsF_step hltf hlt] at hI
      rw [hI]
      (repeat apply EX.in)
      refine NEED.mk (by first | exact (ReadsAt.sub hr (0) (by simp) rfl).up | exact ReadsAt.sub hr (0) (by simp) rfl) ?_
      refine IFF.mk (fun hb => ?_) (fun hb => ?_) <;> (try simp only [decide_eq_true_eq, decide_eq_false_iff_not, Bool.and_eq_true, Bool.or_eq_true, Bool.not_eq_true', Bool.not_eq_false', Bool.and_eq_false_iff, Bool.or_eq_false_iff, Bool.not_true, Bool.not_false, Int.not_lt, Int.not_le, Decidable.not_not, ne_eq] at hb)
      · exact ⟨by rw [if_pos hb], rfl⟩
      rw [if_neg hb] at hI ⊢
      refine NEED.mk ⟨hrt.ne, by omega, by omega⟩ ?_
      (repeat apply EX.in)
      refine NEED.mk hrt ?_
      refine NEED.mk ⟨hr.ne, by omega, by omega⟩ ?_
      (repeat apply EX.in)
      refine NEED.mk hr ?_
      refine CALL.pure (rSideKind_ok (o := x.evals[j]) (own := types[i]) (by rfl) (by rfl) h hok hx.whens hks htok) ?_
      (repeat apply EX.in)
      refine NEED.mk rfl ?_
      refine NEED.mk (fun _ => ⟨hrt.ne, by omega, by omega⟩) ?_
      (repeat apply EX.in)
      refine NEED.mk (fun _ => (ReadsAt.sub hrt 1 (by simp) rfl).up) ?_
      have hr2 := htok.fields.cell j hltf
      refine NEED.mk (fun _ => ⟨hr2.ne, by omega, by omega⟩) ?_
      (repeat apply EX.in)
      refine NEED.mk (fun _ => (ReadsAt.sub hr2 1 (by simp) rfl).up) ?_
      refine IFF.mk (fun hb => ?_) (fun hb => ?_) <;> (try simp only [decide_eq_true_eq, decide_eq_false_iff_not, Bool.and_eq_true, Bool.or_eq_true, Bool.not_eq_true', Bool.not_eq_false', Bool.and_eq_false_iff, Bool.or_eq_false_iff, Bool.not_true, Bool.not_false, Int.not_lt, Int.not_le, Decidable.not_not, ne_eq] at hb)
      · refine IFF.yes' (by simp) ?_
        exact ⟨by rw [if_neg (by omega), if_pos (by omega)], rfl⟩
      refine IFF.mk (fun hb => ?_) (fun hb => ?_) <;> (try simp only [decide_eq_true_eq, decide_eq_false_iff_not, Bool.and_eq_true, Bool.or_eq_true, Bool.not_eq_true', Bool.not_eq_false', Bool.and_eq_false_iff, Bool.or_eq_false_iff, Bool.not_true, Bool.not_false, Int.not_lt, Int.not_le, Decidable.not_not, ne_eq] at hb)
      · exact ⟨by rw [if_pos (by omega)], rfl⟩
      rw [if_neg (by omega), if_neg (by omega)] at hI
      refine NEED.mk (by unfold inI64; omega) ?_
      refine NEED.mk ⟨rfl, rfl⟩ ?_
      exact hag hlt hI
    · exact ⟨by rw [hI, evalsF_end (by omega)], rfl⟩
end Go.Proofs.YthaamalgeieijabDoor
