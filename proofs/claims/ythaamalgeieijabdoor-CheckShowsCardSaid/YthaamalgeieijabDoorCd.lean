/- Contracts: conditions, links, what a rule emits, on both sides. No condition. -/
import Derived.Test.YthaamalgeieijabDoorCc
set_option linter.unusedVariables false
set_option linter.unusedSimpArgs false
namespace Go.Proofs.YthaamalgeieijabDoor
open Go

theorem condF_eq (env : Envs) (own : Typ) (depth : Int) (c : Cnd) : condF env own depth c =
    if c.kind < 1 ∨ 7 < c.kind then (0, 3) else
    if 8 < depth then (0, 14) else
    if 4 ≤ c.kind then (if 0 < c.subs.length then (0, 4) else if testF env own c.l c.r ≠ 0 then (0, testF env own c.l c.r) else (1, 0)) else
    if ¬ c.l.Zero ∨ ¬ c.r.Zero ∨ (c.kind = 3 ∧ c.subs.length ≠ 1) ∨ (c.kind ≠ 3 ∧ c.subs.length < 2) then (0, 4) else
    condsF env own (depth + 1) 0 c.subs := by
  cases c
  rw [condF]
  rfl
theorem condsF_cons (env : Envs) (own : Typ) (depth n : Int) (c : Cnd) (l : List Cnd) : condsF env own depth n (c :: l) =
    if (condF env own depth c).2 ≠ 0 then (0, (condF env own depth c).2) else
    if 12 < n + (condF env own depth c).1 then (0, 1) else
    condsF env own depth (n + (condF env own depth c).1) l := by rw [condsF]
/-- What a condition's check hands back: on a fault the count is open. -/
def CondQ (r : Int × Int) (v : Value) : Prop := ∃ n : Int, v = .tuple #[.int .i64 n, .int .i64 r.2] ∧ (r.2 = 0 → n = r.1)
theorem CondQ.bad {a b : Int} {r : Int × Int} (h : r.2 = b) (hb : b ≠ 0) : CondQ r (.tuple #[.int .i64 a, .int .i64 b]) := ⟨a, by rw [h], fun h0 => absurd (h.symm.trans h0) hb⟩
theorem CondQ.good {a b : Int} {r : Int × Int} (h : r = (a, b)) : CondQ r (.tuple #[.int .i64 a, .int .i64 b]) := ⟨a, by rw [h], fun h0 => by rw [h]⟩
theorem sCondition_ok {p tA : Option Addr} {r : Nat} {types : List Typ} {tc : Nat} {env : Envs} {own : Typ} {M L : Mem} (h : Scope M L p r tA types tc env) (ho : own ∈ types) : ∀ (n : Nat) (c : Cnd) (depth : Int), (9 - depth).toNat ≤ n → 1 ≤ depth → c.Ok M →
    PureQ Tryd.prog 58 #[.pointer p, c.toV, own.toV, .int .i64 depth] M L (CondQ (condF env own depth c)) := by
  intro n
  induction n with
  | zero =>
    intro c depth hn h1 hc
    refine PureQ.of (sCondition_spec ?_)
    unfold vc_sCondition
    have e := condF_eq env own depth c
    refine IFF.mk (fun hb => ?_) (fun hb => ?_) <;> (try simp only [decide_eq_true_eq, decide_eq_false_iff_not, Bool.and_eq_true, Bool.or_eq_true, Bool.not_eq_true', Bool.not_eq_false', Bool.and_eq_false_iff, Bool.or_eq_false_iff, Bool.not_true, Bool.not_false, Int.not_lt, Int.not_le, Decidable.not_not, ne_eq] at hb)
    · refine ⟨.good ?_, rfl⟩; rw [e, if_pos (by omega)]
    refine IFF.yes' (by simp; omega) ⟨.good ?_, rfl⟩
    rw [e, if_neg (by omega), if_pos (by omega)]
  | succ n ih =>
    intro c depth hn h1 hc
    refine PureQ.of (sCondition_spec ?_)
    unfold vc_sCondition
    have e := condF_eq env own depth c
    refine IFF.mk (fun hb => ?_) (fun hb => ?_) <;> (try simp only [decide_eq_true_eq, decide_eq_false_iff_not, Bool.and_eq_true, Bool.or_eq_true, Bool.not_eq_true', Bool.not_eq_false', Bool.and_eq_false_iff, Bool.or_eq_false_iff, Bool.not_true, Bool.not_false, Int.not_lt, Int.not_le, Decidable.not_not, ne_eq] at hb)
    · refine ⟨.good ?_, rfl⟩; rw [e, if_pos (by omega)]
    rw [if_neg (by omega)] at e
    refine IFF.mk (fun hb => ?_) (fun hb => ?_) <;> (try simp only [decide_eq_true_eq, decide_eq_false_iff_not, Bool.and_eq_true, Bool.or_eq_true, Bool.not_eq_true', Bool.not_eq_false', Bool.and_eq_false_iff, Bool.or_eq_false_iff, Bool.not_true, Bool.not_false, Int.not_lt, Int.not_le, Decidable.not_not, ne_eq] at hb)
    · refine ⟨.good ?_, rfl⟩; rw [e, if_pos (by omega)]
    rw [if_neg (by omega)] at e
    have hd8 : depth ≤ 8 := by omega
    refine IFF.mk (fun hb => ?_) (fun hb => ?_) <;> (try simp only [decide_eq_true_eq, decide_eq_false_iff_not, Bool.and_eq_true, Bool.or_eq_true, Bool.not_eq_true', Bool.not_eq_false', Bool.and_eq_false_iff, Bool.or_eq_false_iff, Bool.not_true, Bool.not_false, Int.not_lt, Int.not_le, Decidable.not_not, ne_eq] at hb)
    · rw [if_pos (by omega)] at e
      refine CALL.pure (sTest_ok (c := c) h ho) ?_
      (repeat apply EX.in)
      refine NEED.mk rfl ?_
      rw [e]
      by_cases h0 : 0 < c.subs.length
      · rw [if_pos h0, if_pos h0]; exact ⟨.bad rfl (by omega), rfl⟩
      · rw [if_neg h0, if_neg h0]
        by_cases ht : testF env own c.l c.r = 0
        · rw [if_neg (by simpa using ht), ht]; exact ⟨.good rfl, rfl⟩
        · rw [if_pos ht]; exact ⟨.bad rfl ht, rfl⟩
    rw [if_neg (by omega)] at e
    refine IFF.mk (fun hb => ?_) (fun hb => ?_)
    · refine ⟨.good ?_, rfl⟩; rw [e, if_pos]; simp [Opd.Zero, Vl.Zero] at hb ⊢; grind
    rw [if_neg (by simp [Opd.Zero, Vl.Zero] at hb ⊢; grind)] at e
    rw [e]
    have hrow := hc.row
    have hlen := hrow.len
    refine LOOP.toS c.subs.length (fun (k : Int) j => [.int .i64 k, .int .i64 (j : Int)]) (fun k j => 0 ≤ k ∧ k ≤ 12 ∧ condsF env own (depth + 1) 0 c.subs = condsF env own (depth + 1) k (c.subs.drop j)) 0 rfl ⟨by omega, by omega, rfl⟩ ?_
    rintro k j again hj ⟨hk0, hk12, hI⟩ hag
    (repeat apply EX.in)
    refine NEED.mk ⟨rfl, rfl⟩ ?_
    refine IFF.mk (fun hb => ?_) (fun hb => ?_) <;> (try simp only [decide_eq_true_eq, decide_eq_false_iff_not, Bool.and_eq_true, Bool.or_eq_true, Bool.not_eq_true', Bool.not_eq_false', Bool.and_eq_false_iff, Bool.or_eq_false_iff, Bool.not_true, Bool.not_false, Int.not_lt, Int.not_le, Decidable.not_not, ne_eq] at hb)
    · have hlt : j < c.subs.length := by simpa using hb
      have hr := (hrow).cell j hlt
      have hd := drop_step hlt
      refine NEED.mk ⟨hr.ne, by omega, by omega⟩ ?_
      (repeat apply EX.in)
      refine NEED.mk (by first | exact hr.up | exact hr) ?_
      refine NEED.mk (by unfold inI64; omega) ?_
      refine CALL.q (ih c.subs[j] (depth + 1) (by omega) (by omega) (hc.sub _ (List.getElem_mem hlt))) ?_
      rintro v ⟨m, rfl, hm⟩
      (repeat apply EX.in)
      refine NEED.mk rfl ?_
      rw [hd, condsF_cons] at hI
      have hle := condF_le env own (depth + 1) c.subs[j]
      rw [hI]
      refine IFF.mk (fun hb => ?_) (fun hb => ?_) <;> (try simp only [decide_eq_true_eq, decide_eq_false_iff_not, Bool.and_eq_true, Bool.or_eq_true, Bool.not_eq_true', Bool.not_eq_false', Bool.and_eq_false_iff, Bool.or_eq_false_iff, Bool.not_true, Bool.not_false, Int.not_lt, Int.not_le, Decidable.not_not, ne_eq] at hb)
      · rw [if_pos (by omega)]; exact ⟨.bad rfl (by omega), rfl⟩
      rw [if_neg (by omega)] at hI ⊢
      have hm' := hm (by omega)
      rw [hm']
      refine NEED.mk (by unfold inI64; omega) ?_
      refine IFF.mk (fun hb => ?_) (fun hb => ?_) <;> (try simp only [decide_eq_true_eq, decide_eq_false_iff_not, Bool.and_eq_true, Bool.or_eq_true, Bool.not_eq_true', Bool.not_eq_false', Bool.and_eq_false_iff, Bool.or_eq_false_iff, Bool.not_true, Bool.not_false, Int.not_lt, Int.not_le, Decidable.not_not, ne_eq] at hb)
      · rw [if_pos (by omega)]; exact ⟨.bad rfl (by omega), rfl⟩
      rw [if_neg (by omega)] at hI
      refine NEED.mk (by unfold inI64; omega) ?_
      refine NEED.mk ⟨rfl, rfl⟩ ?_
      exact hag _ hlt ⟨by omega, by omega, hI⟩
    · have hd := drop_end (j := j) (l := c.subs) (by simpa using hb)
      rw [hI, hd]
      exact ⟨.good rfl, rfl⟩
theorem rConditionFault_ok {tA wA : Option Addr} {types : List Typ} {tc wc tn wn : Nat} {ws : List Pat} {own : Typ} {M L : Mem} (htn : tn = types.length) (hwn : wn = ws.length) (h : Row M Typ.toV 2 tA tc types) (hok : ∀ t ∈ types, t.Ok M) (hw : Row M Pat.toV 18 wA wc ws) (hks : ∀ q ∈ ws, typedF types q.type ≠ none) (ho : own.Ok M) : ∀ (n : Nat) (c : Cnd) (depth : Int), (9 - depth).toNat ≤ n → 1 ≤ depth → c.Ok M →
    PureQ Tryd.prog 70 #[.slice tA tn tc, .slice wA wn wc, own.toV, c.toV, .int .i64 depth] M L (CondQ (condF (envF types ws) own depth c)) := by
  subst htn hwn
  intro n
  induction n with
  | zero =>
    intro c depth hn h1 hc
    refine PureQ.of (rConditionFault_spec ?_)
    unfold vc_rConditionFault
    have e := condF_eq (envF types ws) own depth c
    refine CALL.pure (rIn_ok) ?_
    (repeat apply EX.in)
    refine NEED.mk rfl ?_
    refine IFF.mk (fun hb => ?_) (fun hb => ?_) <;> (try simp only [decide_eq_true_eq, decide_eq_false_iff_not, Bool.and_eq_true, Bool.or_eq_true, Bool.not_eq_true', Bool.not_eq_false', Bool.and_eq_false_iff, Bool.or_eq_false_iff, Bool.not_true, Bool.not_false, Int.not_lt, Int.not_le, Decidable.not_not, ne_eq] at hb)
    · refine ⟨.good ?_, rfl⟩; rw [e, if_pos (by omega)]
    refine IFF.yes' (by simp; omega) ⟨.good ?_, rfl⟩
    rw [e, if_neg (by omega), if_pos (by omega)]
  | succ n ih =>
    intro c depth hn h1 hc
    refine PureQ.of (rConditionFault_spec ?_)
    unfold vc_rConditionFault
    have e := condF_eq (envF types ws) own depth c
    refine CALL.pure (rIn_ok) ?_
    (repeat apply EX.in)
    refine NEED.mk rfl ?_
    refine IFF.mk (fun hb => ?_) (fun hb => ?_) <;> (try simp only [decide_eq_true_eq, decide_eq_false_iff_not, Bool.and_eq_true, Bool.or_eq_true, Bool.not_eq_true', Bool.not_eq_false', Bool.and_eq_false_iff, Bool.or_eq_false_iff, Bool.not_true, Bool.not_false, Int.not_lt, Int.not_le, Decidable.not_not, ne_eq] at hb)
    · refine ⟨.good ?_, rfl⟩; rw [e, if_pos (by omega)]
    rw [if_neg (by omega)] at e
    refine IFF.mk (fun hb => ?_) (fun hb => ?_) <;> (try simp only [decide_eq_true_eq, decide_eq_false_iff_not, Bool.and_eq_true, Bool.or_eq_true, Bool.not_eq_true', Bool.not_eq_false', Bool.and_eq_false_iff, Bool.or_eq_false_iff, Bool.not_true, Bool.not_false, Int.not_lt, Int.not_le, Decidable.not_not, ne_eq] at hb)
    · refine ⟨.good ?_, rfl⟩; rw [e, if_pos (by omega)]
    rw [if_neg (by omega)] at e
    refine IFF.mk (fun hb => ?_) (fun hb => ?_) <;> (try simp only [decide_eq_true_eq, decide_eq_false_iff_not, Bool.and_eq_true, Bool.or_eq_true, Bool.not_eq_true', Bool.not_eq_false', Bool.and_eq_false_iff, Bool.or_eq_false_iff, Bool.not_true, Bool.not_false, Int.not_lt, Int.not_le, Decidable.not_not, ne_eq] at hb)
    · rw [if_pos (by omega)] at e
      refine IFF.mk (fun hb => ?_) (fun hb => ?_) <;> (try simp only [decide_eq_true_eq, decide_eq_false_iff_not, Bool.and_eq_true, Bool.or_eq_true, Bool.not_eq_true', Bool.not_eq_false', Bool.and_eq_false_iff, Bool.or_eq_false_iff, Bool.not_true, Bool.not_false, Int.not_lt, Int.not_le, Decidable.not_not, ne_eq] at hb)
      · refine ⟨.good ?_, rfl⟩; rw [e, if_pos (by omega)]
      rw [if_neg (by omega)] at e
      rw [e]
      refine CALL.pure (rSideKind_ok (o := c.l) (by rfl) (by rfl) h hok hw hks ho) ?_
      (repeat apply EX.in)
      refine NEED.mk rfl ?_
      refine IFF.mk (fun hb => ?_) (fun hb => ?_) <;> (try simp only [decide_eq_true_eq, decide_eq_false_iff_not, Bool.and_eq_true, Bool.or_eq_true, Bool.not_eq_true', Bool.not_eq_false', Bool.and_eq_false_iff, Bool.or_eq_false_iff, Bool.not_true, Bool.not_false, Int.not_lt, Int.not_le, Decidable.not_not, ne_eq] at hb)
      · have ht : testF (envF types ws) own c.l c.r = (sideF (envF types ws) own c.l).2 := by rw [testF, if_pos (by omega)]
        rw [if_pos (by omega), ht]; exact ⟨.good rfl, rfl⟩
      refine CALL.pure (rSideKind_ok (o := c.r) (by rfl) (by rfl) h hok hw hks ho) ?_
      (repeat apply EX.in)
      refine NEED.mk rfl ?_
      refine IFF.mk (fun hb => ?_) (fun hb => ?_) <;> (try simp only [decide_eq_true_eq, decide_eq_false_iff_not, Bool.and_eq_true, Bool.or_eq_true, Bool.not_eq_true', Bool.not_eq_false', Bool.and_eq_false_iff, Bool.or_eq_false_iff, Bool.not_true, Bool.not_false, Int.not_lt, Int.not_le, Decidable.not_not, ne_eq] at hb)
      · have ht : testF (envF types ws) own c.l c.r = 13 := by rw [testF, if_neg (by omega), if_neg (by omega), if_pos (by omega)]
        rw [if_pos (by omega), ht]; exact ⟨.bad rfl (by omega), rfl⟩
      · have ht : testF (envF types ws) own c.l c.r = (sideF (envF types ws) own c.r).2 := by
          rw [testF, if_neg (by omega)]
          by_cases h0 : (sideF (envF types ws) own c.r).2 = 0
          · rw [if_neg (by omega), if_neg (by omega)]; omega
          · rw [if_pos h0]
        rw [ht]
        by_cases h0 : (sideF (envF types ws) own c.r).2 = 0
        · rw [if_neg (by omega), h0]; exact ⟨.good rfl, rfl⟩
        · rw [if_pos h0]; exact ⟨.bad rfl h0, rfl⟩
    rw [if_neg (by omega)] at e
    refine IFF.mk (fun hb => ?_) (fun hb => ?_)
    · refine ⟨.good ?_, rfl⟩; rw [e, if_pos]; simp [Opd.Zero, Vl.Zero] at hb ⊢; grind
    refine IFF.mk (fun hb2 => ?_) (fun hb2 => ?_)
    · refine ⟨.good ?_, rfl⟩; rw [e, if_pos]; simp at hb2; simp [Opd.Zero, Vl.Zero]; grind
    rw [if_neg (by simp [Opd.Zero, Vl.Zero] at hb hb2 ⊢; grind)] at e
    rw [e]
    have hrow := hc.row
    have hlen := hrow.len
    refine LOOP.toS c.subs.length (fun (k : Int) j => [.int .i64 k, .int .i64 (j : Int)]) (fun k j => 0 ≤ k ∧ k ≤ 12 ∧ condsF (envF types ws) own (depth + 1) 0 c.subs = condsF (envF types ws) own (depth + 1) k (c.subs.drop j)) 0 rfl ⟨by omega, by omega, rfl⟩ ?_
    rintro k j again hj ⟨hk0, hk12, hI⟩ hag
    (repeat apply EX.in)
    refine NEED.mk ⟨rfl, rfl⟩ ?_
    refine IFF.mk (fun hb => ?_) (fun hb => ?_) <;> (try simp only [decide_eq_true_eq, decide_eq_false_iff_not, Bool.and_eq_true, Bool.or_eq_true, Bool.not_eq_true', Bool.not_eq_false', Bool.and_eq_false_iff, Bool.or_eq_false_iff, Bool.not_true, Bool.not_false, Int.not_lt, Int.not_le, Decidable.not_not, ne_eq] at hb)
    · have hlt : j < c.subs.length := by simpa using hb
      have hr := (hrow).cell j hlt
      have hd := drop_step hlt
      refine NEED.mk ⟨hr.ne, by omega, by omega⟩ ?_
      (repeat apply EX.in)
      refine NEED.mk (by first | exact hr.up | exact hr) ?_
      refine NEED.mk (by unfold inI64; omega) ?_
      refine CALL.q (ih c.subs[j] (depth + 1) (by omega) (by omega) (hc.sub _ (List.getElem_mem hlt))) ?_
      rintro v ⟨m, rfl, hm⟩
      (repeat apply EX.in)
      refine NEED.mk rfl ?_
      rw [hd, condsF_cons] at hI
      have hle := condF_le (envF types ws) own (depth + 1) c.subs[j]
      rw [hI]
      refine IFF.mk (fun hb => ?_) (fun hb => ?_) <;> (try simp only [decide_eq_true_eq, decide_eq_false_iff_not, Bool.and_eq_true, Bool.or_eq_true, Bool.not_eq_true', Bool.not_eq_false', Bool.and_eq_false_iff, Bool.or_eq_false_iff, Bool.not_true, Bool.not_false, Int.not_lt, Int.not_le, Decidable.not_not, ne_eq] at hb)
      · rw [if_pos (by omega)]; exact ⟨.bad rfl (by omega), rfl⟩
      rw [if_neg (by omega)] at hI ⊢
      have hm' := hm (by omega)
      rw [hm']
      refine NEED.mk (by unfold inI64; omega) ?_
      refine IFF.mk (fun hb => ?_) (fun hb => ?_) <;> (try simp only [decide_eq_true_eq, decide_eq_false_iff_not, Bool.and_eq_true, Bool.or_eq_true, Bool.not_eq_true', Bool.not_eq_false', Bool.and_eq_false_iff, Bool.or_eq_false_iff, Bool.not_true, Bool.not_false, Int.not_lt, Int.not_le, Decidable.not_not, ne_eq] at hb)
      · rw [if_pos (by omega)]; exact ⟨.bad rfl (by omega), rfl⟩
      rw [if_neg (by omega)] at hI
      refine NEED.mk (by unfold inI64; omega) ?_
      refine NEED.mk ⟨rfl, rfl⟩ ?_
      exact hag _ hlt ⟨by omega, by omega, hI⟩
    · have hd := drop_end (j := j) (l := c.subs) (by simpa using hb)
      rw [hI, hd]
      exact ⟨.good rfl, rfl⟩
theorem cLink_ok {x : Rul} {k : Lnk} {M L : Mem} (hx : x.Ok M) (hk : k.Ok M) : Pure Tryd.prog 37 #[x.toV, k.toV] M L (.int .i64 (linkF x k)) := by
  refine Pure.of (cLink_spec ?_)
  unfold vc_cLink
  have hlk := hk.opts.len
  refine LOOP.to 2 (fun j => (0 < j → ¬ (inF x.whens k.left = false ∧ inF x.nots k.left = false)) ∧ (1 < j → ¬ (inF x.whens k.right = false ∧ inF x.nots k.right = false))) (by omega) ?_
  intro j again hj hI hag
  (repeat apply EX.in)
  refine NEED.mk ⟨rfl, rfl⟩ ?_
  refine IFF.mk (fun hb => ?_) (fun hb => ?_) <;> (try simp only [decide_eq_true_eq, decide_eq_false_iff_not, Bool.and_eq_true, Bool.or_eq_true, Bool.not_eq_true', Bool.not_eq_false', Bool.and_eq_false_iff, Bool.or_eq_false_iff, Bool.not_true, Bool.not_false, Int.not_lt, Int.not_le, Decidable.not_not, ne_eq] at hb)
  · refine NEED.mk (by omega) ?_
    refine NEED.mk (by kernel_rfl) ?_
    have hj2 : j = 0 ∨ j = 1 := by omega
    rcases hj2 with rfl | rfl
    · refine CALL.pure (v := .bool (inF x.whens k.left)) (cLink_1_ok (by rfl) hx.whens) ?_
      refine EX.in _ (NEED.mk rfl ?_)
      refine IFF.mk (fun hb => ?_) (fun hb => ?_) <;> (try simp only [decide_eq_true_eq, decide_eq_false_iff_not, Bool.and_eq_true, Bool.or_eq_true, Bool.not_eq_true', Bool.not_eq_false', Bool.and_eq_false_iff, Bool.or_eq_false_iff, Bool.not_true, Bool.not_false, Int.not_lt, Int.not_le, Decidable.not_not, ne_eq] at hb)
      · refine NEED.mk (by kernel_rfl) ?_
        refine CALL.pure (v := .bool (inF x.nots k.left)) (cLink_1_ok (by rfl) hx.nots) ?_
        refine EX.in _ (NEED.mk rfl ?_)
        have hb1 := ‹inF x.whens _ = false›
        refine IFF.mk (fun hb => ?_) (fun hb => ?_) <;> (try simp only [decide_eq_true_eq, decide_eq_false_iff_not, Bool.and_eq_true, Bool.or_eq_true, Bool.not_eq_true', Bool.not_eq_false', Bool.and_eq_false_iff, Bool.or_eq_false_iff, Bool.not_true, Bool.not_false, Int.not_lt, Int.not_le, Decidable.not_not, ne_eq] at hb)
        · exact ⟨by rw [linkF, if_pos (.inl ⟨hb1, hb⟩)], rfl⟩
        · refine NEED.mk (by unfold inI64; omega) ?_
          refine NEED.mk ⟨rfl, rfl⟩ ?_
          exact hag (by omega) ⟨fun _ => by simp [hb], by omega⟩
      · refine IFF.f ?_
        refine NEED.mk (by unfold inI64; omega) ?_
        refine NEED.mk ⟨rfl, rfl⟩ ?_
        exact hag (by omega) ⟨fun _ => by simp [hb], by omega⟩
    · refine CALL.pure (v := .bool (inF x.whens k.right)) (cLink_1_ok (by rfl) hx.whens) ?_
      refine EX.in _ (NEED.mk rfl ?_)
      refine IFF.mk (fun hb => ?_) (fun hb => ?_) <;> (try simp only [decide_eq_true_eq, decide_eq_false_iff_not, Bool.and_eq_true, Bool.or_eq_true, Bool.not_eq_true', Bool.not_eq_false', Bool.and_eq_false_iff, Bool.or_eq_false_iff, Bool.not_true, Bool.not_false, Int.not_lt, Int.not_le, Decidable.not_not, ne_eq] at hb)
      · refine NEED.mk (by kernel_rfl) ?_
        refine CALL.pure (v := .bool (inF x.nots k.right)) (cLink_1_ok (by rfl) hx.nots) ?_
        refine EX.in _ (NEED.mk rfl ?_)
        have hb1 := ‹inF x.whens _ = false›
        refine IFF.mk (fun hb => ?_) (fun hb => ?_) <;> (try simp only [decide_eq_true_eq, decide_eq_false_iff_not, Bool.and_eq_true, Bool.or_eq_true, Bool.not_eq_true', Bool.not_eq_false', Bool.and_eq_false_iff, Bool.or_eq_false_iff, Bool.not_true, Bool.not_false, Int.not_lt, Int.not_le, Decidable.not_not, ne_eq] at hb)
        · exact ⟨by rw [linkF, if_pos (.inr ⟨hb1, hb⟩)], rfl⟩
        · refine NEED.mk (by unfold inI64; omega) ?_
          refine NEED.mk ⟨rfl, rfl⟩ ?_
          exact hag (by omega) ⟨fun _ => hI.1 (by omega), fun _ => by simp [hb]⟩
      · refine IFF.f ?_
        refine NEED.mk (by unfold inI64; omega) ?_
        refine NEED.mk ⟨rfl, rfl⟩ ?_
        exact hag (by omega) ⟨fun _ => hI.1 (by omega), fun _ => by simp [hb]⟩
  · have h6 : ¬ ((inF x.whens k.left = false ∧ inF x.nots k.left = false) ∨ (inF x.whens k.right = false ∧ inF x.nots k.right = false)) := by
      rintro (h | h)
      · exact hI.1 (by omega) h
      · exact hI.2 (by omega) h
    have e : linkF x k = if k.left = k.right ∨ (inF x.nots k.left = true ∧ inF x.nots k.right = true) then 4 else if k.opts.length < 1 ∨ 6 < k.opts.length then 1 else optsF k.opts := by rw [linkF, if_neg h6]
    rw [e]
    refine IFF.mk (fun hb => ?_) (fun hb => ?_) <;> (try simp only [decide_eq_true_eq, decide_eq_false_iff_not, Bool.and_eq_true, Bool.or_eq_true, Bool.not_eq_true', Bool.not_eq_false', Bool.and_eq_false_iff, Bool.or_eq_false_iff, Bool.not_true, Bool.not_false, Int.not_lt, Int.not_le, Decidable.not_not, ne_eq] at hb)
    · exact IFF.t ⟨by rw [if_pos (.inl hb)], rfl⟩
    have hlr := hb
    refine NEED.mk (by kernel_rfl) (CALL.pure (v := .bool (inF x.nots k.left)) (cLink_1_ok (by rfl) hx.nots) (EX.in _ (NEED.mk rfl ?_)))
    refine IFF.mk (fun hb => ?_) (fun hb => ?_) <;> (try simp only [decide_eq_true_eq, decide_eq_false_iff_not, Bool.and_eq_true, Bool.or_eq_true, Bool.not_eq_true', Bool.not_eq_false', Bool.and_eq_false_iff, Bool.or_eq_false_iff, Bool.not_true, Bool.not_false, Int.not_lt, Int.not_le, Decidable.not_not, ne_eq] at hb)
    any_goals first
      | refine IFF.f ?_
      | (have hn1 := hb
         refine NEED.mk (by kernel_rfl) (CALL.pure (v := .bool (inF x.nots k.right)) (cLink_1_ok (by rfl) hx.nots) (EX.in _ (NEED.mk rfl ?_)))
         refine IFF.mk (fun hb => ?_) (fun hb => ?_) <;> (try simp only [decide_eq_true_eq, decide_eq_false_iff_not, Bool.and_eq_true, Bool.or_eq_true, Bool.not_eq_true', Bool.not_eq_false', Bool.and_eq_false_iff, Bool.or_eq_false_iff, Bool.not_true, Bool.not_false, Int.not_lt, Int.not_le, Decidable.not_not, ne_eq] at hb)
         · exact ⟨by rw [if_pos (.inr ⟨hn1, hb⟩)], rfl⟩)
    all_goals
      rw [if_neg (by grind)]
      refine IFF.mk (fun hb => ?_) (fun hb => ?_) <;> (try simp only [decide_eq_true_eq, decide_eq_false_iff_not, Bool.and_eq_true, Bool.or_eq_true, Bool.not_eq_true', Bool.not_eq_false', Bool.and_eq_false_iff, Bool.or_eq_false_iff, Bool.not_true, Bool.not_false, Int.not_lt, Int.not_le, Decidable.not_not, ne_eq] at hb)
      · exact ⟨by rw [if_pos (by omega)], rfl⟩
      rw [if_neg (by omega)]
      refine LOOP.to k.opts.length (fun j => optsF k.opts = optsF (k.opts.drop j)) (by simp) ?_
      intro j again hj hI hag
      have hlen := (hk.opts).len
      (repeat apply EX.in)
      refine NEED.mk ⟨rfl, rfl⟩ ?_
      refine IFF.mk (fun hb => ?_) (fun hb => ?_) <;> (try simp only [decide_eq_true_eq, decide_eq_false_iff_not, Bool.and_eq_true, Bool.or_eq_true, Bool.not_eq_true', Bool.not_eq_false', Bool.and_eq_false_iff, Bool.or_eq_false_iff, Bool.not_true, Bool.not_false, Int.not_lt, Int.not_le, Decidable.not_not, ne_eq] at hb)
      · have hlt : j < k.opts.length := by simpa using hb
        have hr := (hk.opts).cell j hlt
        have hd := drop_step hlt
        refine NEED.mk ⟨hr.ne, by omega, by omega⟩ ?_
        (repeat apply EX.in)
        refine NEED.mk (by first | exact hr.up | exact hr) ?_
        refine CALL.pure (tCheckOption_ok (o := k.opts[j])) ?_
        (repeat apply EX.in)
        refine NEED.mk rfl ?_
        rw [hd, optsF] at hI
        rw [hI]
        refine IFF.mk (fun hb => ?_) (fun hb => ?_) <;> (try simp only [decide_eq_true_eq, decide_eq_false_iff_not, Bool.and_eq_true, Bool.or_eq_true, Bool.not_eq_true', Bool.not_eq_false', Bool.and_eq_false_iff, Bool.or_eq_false_iff, Bool.not_true, Bool.not_false, Int.not_lt, Int.not_le, Decidable.not_not, ne_eq] at hb)
        · exact ⟨by rw [if_pos hb], rfl⟩
        · refine NEED.mk (by unfold inI64; omega) ?_
          refine NEED.mk ⟨rfl, rfl⟩ ?_
          exact hag hlt (by rw [hI, if_neg (by omega)])
      · have hd := drop_end (j := j) (l := k.opts) (by simpa using hb)
        exact ⟨by rw [hI, hd]; rfl, rfl⟩
theorem inF_idx {l : List Pat} {s : ByteArray} : (idxF (fun p => decide (p.var = s)) 0 l < 0) = (inF l s = false) := by
  rw [idxF_neg]; rfl
theorem idx_yes {l : List Pat} {s : ByteArray} (h : inF l s = false) : decide (idxF (fun p => decide (p.var = s)) 0 l < 0) = true := by rw [decide_eq_true_eq, inF_idx]; exact h
theorem idx_no {l : List Pat} {s : ByteArray} (h : inF l s = true) : decide (idxF (fun p => decide (p.var = s)) 0 l < 0) = false := by rw [decide_eq_false_iff_not, inF_idx, h]; simp
theorem rLinkFault_ok {x : Rul} {k : Lnk} {M L : Mem} (hx : x.Ok M) (hk : k.Ok M) (hxx : ∀ s, inF x.whens s = true → inF x.nots s = false) : Pure Tryd.prog 50 #[x.toV, k.toV] M L (.int .i64 (linkF x k)) := by
  refine Pure.of (rLinkFault_spec ?_)
  unfold vc_rLinkFault
  refine CALL.pure (rPatternNamed_ok (s := k.left) (by rfl) hx.whens) ?_
  (repeat apply EX.in)
  refine NEED.mk rfl ?_
  refine CALL.pure (rPatternNamed_ok (s := k.right) (by rfl) hx.whens) ?_
  (repeat apply EX.in)
  refine NEED.mk rfl ?_
  have e := linkF.eq_1 x k
  have x1 := hxx k.left
  have x2 := hxx k.right
  have hlk := hk.opts.len
  have six : (inF x.whens k.left = false ∧ inF x.nots k.left = false) ∨ (inF x.whens k.right = false ∧ inF x.nots k.right = false) → (Value.int .i64 6 = Value.int .i64 (linkF x k)) ∧ L = L := fun h => ⟨by rw [e, if_pos h], rfl⟩
  cases hwl : inF x.whens k.left with
  | false =>
    refine IFF.yes' (idx_yes hwl) ?_
    refine CALL.pure (rPatternNamed_ok (s := k.left) (by rfl) hx.nots) ?_
    (repeat apply EX.in)
    refine NEED.mk rfl ?_
    cases hnl : inF x.nots k.left with
    | false => exact IFF.yes' (idx_yes hnl) (IFF.t (six (.inl ⟨hwl, hnl⟩)))
    | true =>
      refine IFF.no' (idx_no hnl) ?_
      cases hwr : inF x.whens k.right with
      | false =>
        refine IFF.yes' (idx_yes hwr) ?_
        refine CALL.pure (rPatternNamed_ok (s := k.right) (by rfl) hx.nots) ?_
        (repeat apply EX.in)
        refine NEED.mk rfl ?_
        cases hnr : inF x.nots k.right with
        | false => exact IFF.yes' (idx_yes hnr) (six (.inr ⟨hwr, hnr⟩))
        | true =>
          refine IFF.no' (idx_no hnr) (IFF.yes' (by rw [idx_yes hwl, idx_yes hwr]; simp) ⟨?_, rfl⟩)
          rw [e, if_neg (by simp [hnl, hnr]), if_pos (.inr ⟨hnl, hnr⟩)]
      | true =>
        refine IFF.no' (idx_no hwr) (IFF.f ?_)
        rw [idx_no hwr, Bool.and_false, Bool.or_false]
        have e' : linkF x k = if k.left = k.right then 4 else if k.opts.length < 1 ∨ 6 < k.opts.length then 1 else optsF k.opts := by
          rw [e, if_neg (by simp [hnl, hwr])]; simp [x2 hwr]
        refine IFF.mk (fun hb => ?_) (fun hb => ?_) <;> (try simp only [decide_eq_true_eq, decide_eq_false_iff_not, Bool.and_eq_true, Bool.or_eq_true, Bool.not_eq_true', Bool.not_eq_false', Bool.and_eq_false_iff, Bool.or_eq_false_iff, Bool.not_true, Bool.not_false, Int.not_lt, Int.not_le, Decidable.not_not, ne_eq] at hb)
        · exact ⟨by rw [e', if_pos hb], rfl⟩
        rw [if_neg hb] at e'
        refine CALL.pure (rIn_ok) ?_
        (repeat apply EX.in)
        refine NEED.mk rfl ?_
        refine IFF.mk (fun hb => ?_) (fun hb => ?_) <;> (try simp only [decide_eq_true_eq, decide_eq_false_iff_not, Bool.and_eq_true, Bool.or_eq_true, Bool.not_eq_true', Bool.not_eq_false', Bool.and_eq_false_iff, Bool.or_eq_false_iff, Bool.not_true, Bool.not_false, Int.not_lt, Int.not_le, Decidable.not_not, ne_eq] at hb)
        · exact ⟨by rw [e', if_pos (by omega)], rfl⟩
        rw [if_neg (by omega)] at e'
        rw [e']
        refine LOOP.to k.opts.length (fun j => optsF k.opts = optsF (k.opts.drop j)) (by simp) ?_
        intro j again hj hI hag
        have hlen := (hk.opts).len
        (repeat apply EX.in)
        refine NEED.mk ⟨rfl, rfl⟩ ?_
        refine IFF.mk (fun hb => ?_) (fun hb => ?_) <;> (try simp only [decide_eq_true_eq, decide_eq_false_iff_not, Bool.and_eq_true, Bool.or_eq_true, Bool.not_eq_true', Bool.not_eq_false', Bool.and_eq_false_iff, Bool.or_eq_false_iff, Bool.not_true, Bool.not_false, Int.not_lt, Int.not_le, Decidable.not_not, ne_eq] at hb)
        · have hlt : j < k.opts.length := by simpa using hb
          have hr := (hk.opts).cell j hlt
          have hd := drop_step hlt
          refine NEED.mk ⟨hr.ne, by omega, by omega⟩ ?_
          (repeat apply EX.in)
          refine NEED.mk (by first | exact hr.up | exact hr) ?_
          refine CALL.pure (rOptionFault_ok (o := k.opts[j])) ?_
          (repeat apply EX.in)
          refine NEED.mk rfl ?_
          rw [hd, optsF] at hI
          rw [hI]
          refine IFF.mk (fun hb => ?_) (fun hb => ?_) <;> (try simp only [decide_eq_true_eq, decide_eq_false_iff_not, Bool.and_eq_true, Bool.or_eq_true, Bool.not_eq_true', Bool.not_eq_false', Bool.and_eq_false_iff, Bool.or_eq_false_iff, Bool.not_true, Bool.not_false, Int.not_lt, Int.not_le, Decidable.not_not, ne_eq] at hb)
          · exact ⟨by rw [if_pos hb], rfl⟩
          · refine NEED.mk (by unfold inI64; omega) ?_
            refine NEED.mk ⟨rfl, rfl⟩ ?_
            exact hag hlt (by rw [hI, if_neg (by omega)])
        · have hd := drop_end (j := j) (l := k.opts) (by simpa using hb)
          exact ⟨by rw [hI, hd]; rfl, rfl⟩
  | true =>
    refine IFF.no' (idx_no hwl) (IFF.f ?_)
    rw [idx_no hwl, Bool.false_and, Bool.or_false]
    cases hwr : inF x.whens k.right with
    | false =>
      refine IFF.yes' (idx_yes hwr) ?_
      refine CALL.pure (rPatternNamed_ok (s := k.right) (by rfl) hx.nots) ?_
      (repeat apply EX.in)
      refine NEED.mk rfl ?_
      cases hnr : inF x.nots k.right with
      | false => exact IFF.yes' (idx_yes hnr) (six (.inr ⟨hwr, hnr⟩))
      | true =>
        refine IFF.no' (idx_no hnr) ?_
        have e' : linkF x k = if k.left = k.right then 4 else if k.opts.length < 1 ∨ 6 < k.opts.length then 1 else optsF k.opts := by
          rw [e, if_neg (by simp [hnr, hwl])]; simp [x1 hwl]
        refine IFF.mk (fun hb => ?_) (fun hb => ?_) <;> (try simp only [decide_eq_true_eq, decide_eq_false_iff_not, Bool.and_eq_true, Bool.or_eq_true, Bool.not_eq_true', Bool.not_eq_false', Bool.and_eq_false_iff, Bool.or_eq_false_iff, Bool.not_true, Bool.not_false, Int.not_lt, Int.not_le, Decidable.not_not, ne_eq] at hb)
        · exact ⟨by rw [e', if_pos hb], rfl⟩
        rw [if_neg hb] at e'
        refine CALL.pure (rIn_ok) ?_
        (repeat apply EX.in)
        refine NEED.mk rfl ?_
        refine IFF.mk (fun hb => ?_) (fun hb => ?_) <;> (try simp only [decide_eq_true_eq, decide_eq_false_iff_not, Bool.and_eq_true, Bool.or_eq_true, Bool.not_eq_true', Bool.not_eq_false', Bool.and_eq_false_iff, Bool.or_eq_false_iff, Bool.not_true, Bool.not_false, Int.not_lt, Int.not_le, Decidable.not_not, ne_eq] at hb)
        · exact ⟨by rw [e', if_pos (by omega)], rfl⟩
        rw [if_neg (by omega)] at e'
        rw [e']
        refine LOOP.to k.opts.length (fun j => optsF k.opts = optsF (k.opts.drop j)) (by simp) ?_
        intro j again hj hI hag
        have hlen := (hk.opts).len
        (repeat apply EX.in)
        refine NEED.mk ⟨rfl, rfl⟩ ?_
        refine IFF.mk (fun hb => ?_) (fun hb => ?_) <;> (try simp only [decide_eq_true_eq, decide_eq_false_iff_not, Bool.and_eq_true, Bool.or_eq_true, Bool.not_eq_true', Bool.not_eq_false', Bool.and_eq_false_iff, Bool.or_eq_false_iff, Bool.not_true, Bool.not_false, Int.not_lt, Int.not_le, Decidable.not_not, ne_eq] at hb)
        · have hlt : j < k.opts.length := by simpa using hb
          have hr := (hk.opts).cell j hlt
          have hd := drop_step hlt
          refine NEED.mk ⟨hr.ne, by omega, by omega⟩ ?_
          (repeat apply EX.in)
          refine NEED.mk (by first | exact hr.up | exact hr) ?_
          refine CALL.pure (rOptionFault_ok (o := k.opts[j])) ?_
          (repeat apply EX.in)
          refine NEED.mk rfl ?_
          rw [hd, optsF] at hI
          rw [hI]
          refine IFF.mk (fun hb => ?_) (fun hb => ?_) <;> (try simp only [decide_eq_true_eq, decide_eq_false_iff_not, Bool.and_eq_true, Bool.or_eq_true, Bool.not_eq_true', Bool.not_eq_false', Bool.and_eq_false_iff, Bool.or_eq_false_iff, Bool.not_true, Bool.not_false, Int.not_lt, Int.not_le, Decidable.not_not, ne_eq] at hb)
          · exact ⟨by rw [if_pos hb], rfl⟩
          · refine NEED.mk (by unfold inI64; omega) ?_
            refine NEED.mk ⟨rfl, rfl⟩ ?_
            exact hag hlt (by rw [hI, if_neg (by omega)])
        · have hd := drop_end (j := j) (l := k.opts) (by simpa using hb)
          exact ⟨by rw [hI, hd]; rfl, rfl⟩
    | true =>
      refine IFF.no' (idx_no hwr) (IFF.f ?_)
      have e' : linkF x k = if k.left = k.right then 4 else if k.opts.length < 1 ∨ 6 < k.opts.length then 1 else optsF k.opts := by
        rw [e, if_neg (by simp [hwr, hwl])]; simp [x1 hwl]
      refine IFF.mk (fun hb => ?_) (fun hb => ?_) <;> (try simp only [decide_eq_true_eq, decide_eq_false_iff_not, Bool.and_eq_true, Bool.or_eq_true, Bool.not_eq_true', Bool.not_eq_false', Bool.and_eq_false_iff, Bool.or_eq_false_iff, Bool.not_true, Bool.not_false, Int.not_lt, Int.not_le, Decidable.not_not, ne_eq] at hb)
      · exact ⟨by rw [e', if_pos hb], rfl⟩
      rw [if_neg hb] at e'
      refine CALL.pure (rIn_ok) ?_
      (repeat apply EX.in)
      refine NEED.mk rfl ?_
      refine IFF.mk (fun hb => ?_) (fun hb => ?_) <;> (try simp only [decide_eq_true_eq, decide_eq_false_iff_not, Bool.and_eq_true, Bool.or_eq_true, Bool.not_eq_true', Bool.not_eq_false', Bool.and_eq_false_iff, Bool.or_eq_false_iff, Bool.not_true, Bool.not_false, Int.not_lt, Int.not_le, Decidable.not_not, ne_eq] at hb)
      · exact ⟨by rw [e', if_pos (by omega)], rfl⟩
      rw [if_neg (by omega)] at e'
      rw [e']
      refine LOOP.to k.opts.length (fun j => optsF k.opts = optsF (k.opts.drop j)) (by simp) ?_
      intro j again hj hI hag
      have hlen := (hk.opts).len
      (repeat apply EX.in)
      refine NEED.mk ⟨rfl, rfl⟩ ?_
      refine IFF.mk (fun hb => ?_) (fun hb => ?_) <;> (try simp only [decide_eq_true_eq, decide_eq_false_iff_not, Bool.and_eq_true, Bool.or_eq_true, Bool.not_eq_true', Bool.not_eq_false', Bool.and_eq_false_iff, Bool.or_eq_false_iff, Bool.not_true, Bool.not_false, Int.not_lt, Int.not_le, Decidable.not_not, ne_eq] at hb)
      · have hlt : j < k.opts.length := by simpa using hb
        have hr := (hk.opts).cell j hlt
        have hd := drop_step hlt
        refine NEED.mk ⟨hr.ne, by omega, by omega⟩ ?_
        (repeat apply EX.in)
        refine NEED.mk (by first | exact hr.up | exact hr) ?_
        refine CALL.pure (rOptionFault_ok (o := k.opts[j])) ?_
        (repeat apply EX.in)
        refine NEED.mk rfl ?_
        rw [hd, optsF] at hI
        rw [hI]
        refine IFF.mk (fun hb => ?_) (fun hb => ?_) <;> (try simp only [decide_eq_true_eq, decide_eq_false_iff_not, Bool.and_eq_true, Bool.or_eq_true, Bool.not_eq_true', Bool.not_eq_false', Bool.and_eq_false_iff, Bool.or_eq_false_iff, Bool.not_true, Bool.not_false, Int.not_lt, Int.not_le, Decidable.not_not, ne_eq] at hb)
        · exact ⟨by rw [if_pos hb], rfl⟩
        · refine NEED.mk (by unfold inI64; omega) ?_
          refine NEED.mk ⟨rfl, rfl⟩ ?_
          exact hag hlt (by rw [hI, if_neg (by omega)])
      · have hd := drop_end (j := j) (l := k.opts) (by simpa using hb)
        exact ⟨by rw [hI, hd]; rfl, rfl⟩
end Go.Proofs.YthaamalgeieijabDoor
