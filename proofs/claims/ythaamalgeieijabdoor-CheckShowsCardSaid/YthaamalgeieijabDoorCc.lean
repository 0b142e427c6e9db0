/- Contracts: windows, sides, comparisons, conditions, on both sides. No condition. -/
import Derived.Test.YthaamalgeieijabDoorCb
import Derived.Test.YthaamalgeieijabDoorVcF
import Derived.Test.YthaamalgeieijabDoorVcQ
set_option linter.unusedVariables false
set_option linter.unusedSimpArgs false
namespace Go.Proofs.YthaamalgeieijabDoor
open Go

theorem cWindow_ok {p : Pat} {A : Option Addr} {c n : Nat} {kinds : List Int} {M L : Mem} (hn : n = kinds.length) (h : Row M (Value.int .i64) 1 A c kinds) :
    Pure Tryd.prog 56 #[p.toV, .slice A n c] M L (.int .i64 (windF kinds p)) := by
  subst hn
  refine Pure.of (cWindow_spec ?_)
  unfold vc_cWindow
  refine LOOP.toS kinds.length (fun (b : Bool) j => [.bool b, .int .i64 (j : Int)]) (fun b j => decide (p.window ∈ kinds) = (b || decide (p.window ∈ kinds.drop j))) false rfl (by simp) ?_
  intro b j again hj hI hag
  have hlen := h.len
  (repeat apply EX.in)
  refine NEED.mk ⟨rfl, rfl⟩ ?_
  refine IFF.mk (fun hb => ?_) (fun hb => ?_) <;> (try simp only [decide_eq_true_eq, decide_eq_false_iff_not, Bool.and_eq_true, Bool.or_eq_true, Bool.not_eq_true', Bool.not_eq_false', Bool.and_eq_false_iff, Bool.or_eq_false_iff, Bool.not_true, Bool.not_false, Int.not_lt, Int.not_le, Decidable.not_not, ne_eq] at hb)
  · have hlt : j < kinds.length := by simpa using hb
    have hr := (h).cell j hlt
    have hd := drop_step hlt
    refine NEED.mk ⟨hr.ne, by omega, by omega⟩ ?_
    (repeat apply EX.in)
    refine NEED.mk (by first | exact hr.up | exact hr) ?_
    refine NEED.mk (by unfold inI64; omega) ?_
    refine NEED.mk ⟨rfl, rfl⟩ ?_
    refine hag _ hlt ?_
    rw [hI, hd]
    simp [List.mem_cons, Bool.decide_or, Bool.or_assoc, -List.getElem_cons_drop]
  · have hd := drop_end (j := j) (l := kinds) (by simpa using hb)
    have hm : decide (p.window ∈ kinds) = b := by rw [hI, hd]; simp
    repeat' (first
          | refine IFF.t ?_
          | refine IFF.f ?_
          | (refine IFF.mk (fun hb => ?_) (fun hb => ?_) <;> (try simp only [decide_eq_true_eq, decide_eq_false_iff_not, Bool.and_eq_true, Bool.or_eq_true, Bool.not_eq_true', Bool.not_eq_false', Bool.and_eq_false_iff, Bool.or_eq_false_iff, Bool.not_true, Bool.not_false, Int.not_lt, Int.not_le, Decidable.not_not, ne_eq] at hb))
          | refine NEED.mk ⟨rfl, rfl⟩ ?_
          | refine NEED.mk rfl ?_
          | refine EX.in _ (NEED.mk rfl ?_)
          | refine EX.in _ (EX.in _ (NEED.mk rfl ?_))
          | refine EX.in _ (EX.in _ (EX.in _ (NEED.mk rfl ?_)))
          | refine NEED.mk ⟨trivial, trivial⟩ ?_
          | refine NEED.mk (by unfold inI64; omega) ?_
          | fail)
    all_goals (refine ⟨?_, rfl⟩; grind [windF])
def typedV (types : List Typ) (s : ByteArray) : Value := match typedF types s with
  | some t => .tuple #[t.toV, .int .i64 0]
  | none => .tuple #[.agg #[.string emptyS, .slice none 0 0], .int .i64 6]
theorem typedF_step {types : List Typ} {s : ByteArray} {t : Typ} : typedF (t :: types) s = if t.name = s then some t else typedF types s := by
  unfold typedF; rw [List.find?_cons]; by_cases h : t.name = s <;> simp [h]
theorem sTyped_ok {p : Option Addr} {A : Option Addr} {c : Nat} {types : List Typ} {s : ByteArray} {M L : Mem} (hp : ReadsAt (Mem.or M L) p 0 (.slice A types.length c)) (h : Row M Typ.toV 2 A c types) :
    Pure Tryd.prog 55 #[.pointer p, .string s] M L (typedV types s) := by
  refine Pure.of (sTyped_spec ?_)
  unfold vc_sTyped
  refine NEED.mk hp.ne ?_
  (repeat apply EX.in)
  refine NEED.mk hp ?_
  refine LOOP.atB (fun x : Nat × ByteArray × Option Addr × Nat × Nat => [.int .i64 (x.1 : Int)]) (fun x => [[.string x.2.1, .slice x.2.2.1 x.2.2.2.1 x.2.2.2.2]]) (fun x => x.1 ≤ types.length ∧ typedF types s = typedF (types.drop x.1) s) (fun x => types.length - x.1) (0, emptyS, none, 0, 0) rfl rfl ⟨by simp, rfl⟩ ?_
  rintro ⟨j, s', A', n', c'⟩ again ⟨hj, hI⟩ hag
  have hlen := h.len
  dsimp only at hj hI hag ⊢
  (repeat apply EX.in)
  refine NEED.mk ⟨rfl, rfl⟩ ?_
  refine IFF.mk (fun hb => ?_) (fun hb => ?_) <;> (try simp only [decide_eq_true_eq, decide_eq_false_iff_not, Bool.and_eq_true, Bool.or_eq_true, Bool.not_eq_true', Bool.not_eq_false', Bool.and_eq_false_iff, Bool.or_eq_false_iff, Bool.not_true, Bool.not_false, Int.not_lt, Int.not_le, Decidable.not_not, ne_eq] at hb)
  · have hlt : j < types.length := by simpa using hb
    have hr := (h).cell j hlt
    have hd := drop_step hlt
    refine NEED.mk ⟨hr.ne, by omega, by omega⟩ ?_
    rw [hd, typedF_step] at hI
    (repeat apply EX.in)
    refine NEED.mk (by first | exact hr.up | exact hr) ?_
    refine IFF.mk (fun hb => ?_) (fun hb => ?_) <;> (try simp only [decide_eq_true_eq, decide_eq_false_iff_not, Bool.and_eq_true, Bool.or_eq_true, Bool.not_eq_true', Bool.not_eq_false', Bool.and_eq_false_iff, Bool.or_eq_false_iff, Bool.not_true, Bool.not_false, Int.not_lt, Int.not_le, Decidable.not_not, ne_eq] at hb)
    · refine ⟨?_, rfl⟩; rw [typedV, hI, if_pos hb]; rfl
    · refine NEED.mk (by unfold inI64; omega) ?_
      refine NEED.mk ⟨rfl, rfl⟩ ?_
      exact hag (j + 1, s', A', n', c') ⟨hlt, by rw [hI, if_neg hb]⟩ (by dsimp only; omega)
  · have hd := drop_end (j := j) (l := types) (by simpa using hb)
    rw [hd] at hI
    refine ⟨?_, rfl⟩; rw [typedV, hI]; rfl
def envV (env : Envs) : Value → Option Value
  | .string s => (env s).map Typ.toV
  | _ => none
/-- A rule's scope in memory: its types, and what is known. -/
structure Scope (M L : Mem) (p : Option Addr) (r : Nat) (tA : Option Addr) (types : List Typ) (tc : Nat) (env : Envs) : Prop where
  at_ : ReadsAt M p 0 (.slice tA types.length tc)
  row : Row M Typ.toV 2 tA tc types
  ok : ∀ t ∈ types, t.Ok M
  fine : ∀ t ∈ types, typeF t = 0
  map : ReadsAt M p 1 (.map (some r))
  known : MapF .string (Mem.or M L) r (envV env)
  from_ : ∀ s t, env s = some t → t ∈ types
theorem typedF_mem {types : List Typ} {s : ByteArray} {t : Typ} (h : typedF types s = some t) : t ∈ types := List.mem_of_find?_eq_some h
def pairV (x : Int × Int) : Value := .tuple #[.int .i64 x.1, .int .i64 x.2]
theorem sSide_ok {p tA : Option Addr} {r : Nat} {types : List Typ} {tc : Nat} {env : Envs} {o : Opd} {own : Typ} {M L : Mem} (h : Scope M L p r tA types tc env) (ho : own ∈ types) :
    Pure Tryd.prog 62 #[.pointer p, o.toV, own.toV] M L (pairV (sideF env own o)) := by
  refine Pure.of (sSide_spec ?_)
  unfold vc_sSide
  obtain ⟨es, hes, hk, hget0⟩ := h.known
  have hr := h.map
  have hget : ∀ s, mGet es (.string s) = (env s).map Typ.toV := fun s => hget0 (.string s) trivial
  refine JOIN.atB (L := L) (fun x : Opd × Typ => []) (fun x => [[.int .i64 x.1.kind, .int .i64 x.1.v.kind, .int .i64 x.1.v.int, .string x.1.v.text, .string x.1.var, .string x.1.field], [.string x.2.name, .slice x.2.fA x.2.fields.length x.2.fc]])
    (fun x => (o.kind = 1 ∧ x.1 = { o with v := ⟨0, 0, emptyS⟩ }) ∨ (o.kind = 2 ∧ x.1 = { o with field := emptyS } ∧ x.2 = own) ∨ (o.kind = 3 ∧ x.1 = { o with var := emptyS, field := emptyS } ∧ env o.var = some x.2)) (fun nx hnx => ?_) (fun x hx => ?_)
  · refine IFF.mk (fun hb => ?_) (fun hb => ?_) <;> (try simp only [decide_eq_true_eq, decide_eq_false_iff_not, Bool.and_eq_true, Bool.or_eq_true, Bool.not_eq_true', Bool.not_eq_false', Bool.and_eq_false_iff, Bool.or_eq_false_iff, Bool.not_true, Bool.not_false, Int.not_lt, Int.not_le, Decidable.not_not, ne_eq] at hb)
    · refine NEED.mk ⟨rfl, rfl⟩ ?_
      exact hnx ({ o with v := ⟨0, 0, emptyS⟩ }, ⟨emptyS, none, [], 0⟩) (.inl ⟨hb, rfl⟩)
    refine IFF.mk (fun hb => ?_) (fun hb => ?_) <;> (try simp only [decide_eq_true_eq, decide_eq_false_iff_not, Bool.and_eq_true, Bool.or_eq_true, Bool.not_eq_true', Bool.not_eq_false', Bool.and_eq_false_iff, Bool.or_eq_false_iff, Bool.not_true, Bool.not_false, Int.not_lt, Int.not_le, Decidable.not_not, ne_eq] at hb)
    · refine NEED.mk ⟨rfl, rfl⟩ ?_
      exact hnx ({ o with field := emptyS }, own) (.inr (.inl ⟨hb, rfl, rfl⟩))
    refine IFF.mk (fun hb => ?_) (fun hb => ?_) <;> (try simp only [decide_eq_true_eq, decide_eq_false_iff_not, Bool.and_eq_true, Bool.or_eq_true, Bool.not_eq_true', Bool.not_eq_false', Bool.and_eq_false_iff, Bool.or_eq_false_iff, Bool.not_true, Bool.not_false, Int.not_lt, Int.not_le, Decidable.not_not, ne_eq] at hb)
    · refine NEED.mk hr.ne ?_
      apply EX.in
      refine NEED.mk hr ?_
      cases he : env o.var with
      | none =>
        refine EX.in es (EX.in false (EX.in emptyS (EX.in none (EX.in 0 (EX.in 0 (NEED.mk ⟨hes, hk, by rw [hget, he]; rfl, fun _ => rfl⟩ ?_))))))
        refine IFF.t ⟨?_, rfl⟩
        simp only [pairV, sideF]; rw [if_neg (by omega), if_pos ⟨hb, he⟩]
      | some t =>
        refine EX.in es (EX.in true (EX.in t.name (EX.in t.fA (EX.in t.fields.length (EX.in t.fc (NEED.mk ⟨hes, hk, by rw [hget, he]; rfl, fun h => by cases h⟩ ?_))))))
        refine IFF.f ?_
        refine NEED.mk ⟨rfl, rfl⟩ ?_
        exact hnx ({ o with var := emptyS, field := emptyS }, t) (.inr (.inr ⟨hb, rfl, he⟩))
    · refine ⟨?_, rfl⟩
      simp only [pairV, sideF]
      rw [if_pos (by omega)]
  · obtain ⟨o', t⟩ := x
    dsimp only at hx ⊢
    (repeat apply EX.in)
    refine NEED.mk ⟨rfl, rfl⟩ ?_
    have hz : (!(decide (o'.kind = o.kind) && (decide (o'.v.kind = 0) && (decide (o'.v.int = 0) && decide (o'.v.text = emptyS)) && (decide (o'.var = emptyS) && decide (o'.field = emptyS))))) = decide ((o.kind ≠ 3 ∧ o.var ≠ emptyS) ∨ (o.kind = 1 ∧ o.field ≠ emptyS) ∨ (o.kind ≠ 1 ∧ ¬ o.v.Zero)) := by
      rw [Bool.eq_iff_iff]
      rcases hx with ⟨h1, rfl⟩ | ⟨h1, rfl, _⟩ | ⟨h1, rfl, _⟩ <;> simp [h1, Vl.Zero] <;> grind
    rw [show (ByteArray.mk #[]) = emptyS from rfl, hz]
    have hkind : ¬ (o.kind < 1 ∨ 3 < o.kind) := by omega
    have henv : ¬ (o.kind = 3 ∧ env o.var = none) := by
      rintro ⟨h1, h2⟩
      rcases hx with ⟨h3, _⟩ | ⟨h3, _⟩ | ⟨h3, _, h4⟩
      · omega
      · omega
      · rw [h4] at h2; cases h2
    refine IFF.mk (fun hb => ?_) (fun hb => ?_)
    · refine ⟨?_, rfl⟩
      have hb' := of_decide_eq_true hb
      simp only [pairV, sideF]
      rw [if_neg hkind, if_neg henv, if_pos hb']
    · have hb' := of_decide_eq_false hb
      have hS : sideF env own o = if o.kind = 1 then (o.v.kind, valF o.v) else if o.kind = 3 then kindF ((env o.var).getD own) o.field else kindF own o.field := by
        unfold sideF; rw [if_neg hkind, if_neg henv, if_neg hb']
      rw [hS]
      refine IFF.mk (fun hb => ?_) (fun hb => ?_) <;> (try simp only [decide_eq_true_eq, decide_eq_false_iff_not, Bool.and_eq_true, Bool.or_eq_true, Bool.not_eq_true', Bool.not_eq_false', Bool.and_eq_false_iff, Bool.or_eq_false_iff, Bool.not_true, Bool.not_false, Int.not_lt, Int.not_le, Decidable.not_not, ne_eq] at hb)
      · refine CALL.pure (vCheck_ok (v := o.v)) ?_
        (repeat apply EX.in)
        refine NEED.mk rfl ?_
        refine ⟨?_, rfl⟩
        rw [if_pos hb]; rfl
      · have ht : t ∈ types ∧ (if o.kind = 3 then (env o.var).getD own else own) = t := by
          rcases hx with ⟨h3, _⟩ | ⟨h3, _, h4⟩ | ⟨h3, _, h4⟩
          · omega
          · rw [if_neg (by omega), h4]; exact ⟨ho, rfl⟩
          · rw [if_pos h3, h4]; exact ⟨h.from_ _ _ h4, rfl⟩
        refine CALL.pure (vField_ok (t := t) (h.ok t ht.1)) ?_
        (repeat apply EX.in)
        refine NEED.mk rfl ?_
        refine ⟨?_, rfl⟩
        rw [if_neg hb, ← apply_ite (fun t => kindF t o.field), ht.2]
        simp [pairV, fieldF, kindF, h.fine t ht.1]
theorem sTest_ok {p tA : Option Addr} {r : Nat} {types : List Typ} {tc : Nat} {env : Envs} {c : Cnd} {own : Typ} {M L : Mem} (h : Scope M L p r tA types tc env) (ho : own ∈ types) :
    Pure Tryd.prog 75 #[.pointer p, c.toV, own.toV] M L (.int .i64 (if 0 < c.subs.length then 4 else testF env own c.l c.r)) := by
  refine Pure.of (sTest_spec ?_)
  unfold vc_sTest
  refine IFF.mk (fun hb => ?_) (fun hb => ?_) <;> (try simp only [decide_eq_true_eq, decide_eq_false_iff_not, Bool.and_eq_true, Bool.or_eq_true, Bool.not_eq_true', Bool.not_eq_false', Bool.and_eq_false_iff, Bool.or_eq_false_iff, Bool.not_true, Bool.not_false, Int.not_lt, Int.not_le, Decidable.not_not, ne_eq] at hb)
  · exact ⟨by rw [if_pos (by omega)], rfl⟩
  rw [if_neg (by omega)]
  refine CALL.pure (sSide_ok (o := c.l) h ho) ?_
  (repeat apply EX.in)
  refine NEED.mk rfl ?_
  refine IFF.mk (fun hb => ?_) (fun hb => ?_) <;> (try simp only [decide_eq_true_eq, decide_eq_false_iff_not, Bool.and_eq_true, Bool.or_eq_true, Bool.not_eq_true', Bool.not_eq_false', Bool.and_eq_false_iff, Bool.or_eq_false_iff, Bool.not_true, Bool.not_false, Int.not_lt, Int.not_le, Decidable.not_not, ne_eq] at hb)
  · exact ⟨by rw [testF, if_pos hb], rfl⟩
  refine CALL.pure (sSide_ok (o := c.r) h ho) ?_
  (repeat apply EX.in)
  refine NEED.mk rfl ?_
  refine IFF.mk (fun hb => ?_) (fun hb => ?_) <;> (try simp only [decide_eq_true_eq, decide_eq_false_iff_not, Bool.and_eq_true, Bool.or_eq_true, Bool.not_eq_true', Bool.not_eq_false', Bool.and_eq_false_iff, Bool.or_eq_false_iff, Bool.not_true, Bool.not_false, Int.not_lt, Int.not_le, Decidable.not_not, ne_eq] at hb)
  · exact ⟨by rw [testF, if_neg (by omega), if_pos hb], rfl⟩
  rename_i hb2
  refine IFF.mk (fun hb => ?_) (fun hb => ?_) <;> (try simp only [decide_eq_true_eq, decide_eq_false_iff_not, Bool.and_eq_true, Bool.or_eq_true, Bool.not_eq_true', Bool.not_eq_false', Bool.and_eq_false_iff, Bool.or_eq_false_iff, Bool.not_true, Bool.not_false, Int.not_lt, Int.not_le, Decidable.not_not, ne_eq] at hb)
  · exact ⟨by rw [testF, if_neg (by omega), if_neg (by omega), if_pos hb], rfl⟩
  · exact ⟨by rw [testF, if_neg (by omega), if_neg (by omega), if_neg (by omega)], rfl⟩
theorem rSideKind_ok {tA wA : Option Addr} {types : List Typ} {tc wc tn wn : Nat} {ws : List Pat} {o : Opd} {own : Typ} {M L : Mem} (htn : tn = types.length) (hwn : wn = ws.length) (h : Row M Typ.toV 2 tA tc types) (hok : ∀ t ∈ types, t.Ok M) (hw : Row M Pat.toV 18 wA wc ws) (hks : ∀ q ∈ ws, typedF types q.type ≠ none) (ho : own.Ok M) :
    Pure Tryd.prog 74 #[.slice tA tn tc, .slice wA wn wc, own.toV, o.toV] M L (pairV (sideF (envF types ws) own o)) := by
  subst htn hwn
  refine Pure.of (rSideKind_spec ?_)
  unfold vc_rSideKind
  refine CALL.pure (rIn_ok) ?_
  (repeat apply EX.in)
  refine NEED.mk rfl ?_
  refine IFF.mk (fun hb => ?_) (fun hb => ?_) <;> (try simp only [decide_eq_true_eq, decide_eq_false_iff_not, Bool.and_eq_true, Bool.or_eq_true, Bool.not_eq_true', Bool.not_eq_false', Bool.and_eq_false_iff, Bool.or_eq_false_iff, Bool.not_true, Bool.not_false, Int.not_lt, Int.not_le, Decidable.not_not, ne_eq] at hb)
  · refine ⟨?_, rfl⟩
    simp only [pairV, sideF]
    rw [if_pos (by omega)]
  have hkind : ¬ (o.kind < 1 ∨ 3 < o.kind) := by omega
  refine JOIN.atB (L := L) (fun x : Typ => []) (fun x => [[.string x.name, .slice x.fA x.fields.length x.fc]]) (fun x => (o.kind ≠ 3 ∧ x = own) ∨ (o.kind = 3 ∧ envF types ws o.var = some x)) (fun nx hnx => ?_) (fun x hx => ?_)
  · refine IFF.mk (fun hb => ?_) (fun hb => ?_) <;> (try simp only [decide_eq_true_eq, decide_eq_false_iff_not, Bool.and_eq_true, Bool.or_eq_true, Bool.not_eq_true', Bool.not_eq_false', Bool.and_eq_false_iff, Bool.or_eq_false_iff, Bool.not_true, Bool.not_false, Int.not_lt, Int.not_le, Decidable.not_not, ne_eq] at hb)
    · refine CALL.pure (rPatternNamed_ok (by rfl) hw) ?_
      (repeat apply EX.in)
      refine NEED.mk rfl ?_
      rcases idxF_find (p := fun q : Pat => decide (q.var = o.var)) (l := ws) (j := 0) with ⟨h1, h2⟩ | ⟨i, hi, h1, h2, h3⟩
      · refine IFF.yes' (by simpa using h1) ⟨?_, rfl⟩
        have : envF types ws o.var = none := by unfold envF; rw [h2]; rfl
        simp only [pairV, sideF]
        rw [if_neg hkind, if_pos ⟨hb, this⟩]
      · refine IFF.no' (by simp [h1]) ?_
        rw [h1]
        have hr := hw.cell i hi
        refine NEED.mk ⟨hr.ne, by omega, by omega⟩ ?_
        (repeat apply EX.in)
        refine NEED.mk (by first | exact (ReadsAt.sub hr (1) (by simp) rfl).up | exact ReadsAt.sub hr (1) (by simp) rfl) ?_
        have hn := hks _ (List.getElem_mem hi)
        refine CALL.pure (rTypeNamed_ok (by rfl) h) ?_
        (repeat apply EX.in)
        refine NEED.mk rfl ?_
        rcases idxF_find (p := fun t : Typ => decide (t.name = ws[i].type)) (l := types) (j := 0) with ⟨h4, h5⟩ | ⟨k, hk, h4, h5, h6⟩
        · exact absurd h5 hn
        · rw [h4, Nat.zero_add]
          have hr := h.cell k hk
          refine NEED.mk ⟨hr.ne, by omega, by omega⟩ ?_
          (repeat apply EX.in)
          refine NEED.mk (by first | exact hr.up | exact hr) ?_
          refine NEED.mk ⟨rfl, rfl⟩ ?_
          refine hnx types[k] (.inr ⟨hb, ?_⟩)
          unfold envF; rw [h3]; exact h6
    · refine NEED.mk ⟨rfl, rfl⟩ ?_
      exact hnx own (.inl ⟨hb, rfl⟩)
  · (repeat apply EX.in)
    refine NEED.mk ⟨rfl, rfl⟩ ?_
    have henv : ¬ (o.kind = 3 ∧ envF types ws o.var = none) := by
      rintro ⟨h1, h2⟩
      rcases hx with ⟨h3, _⟩ | ⟨h3, h4⟩
      · omega
      · rw [h4] at h2; cases h2
    have hxo : x.Ok M ∧ (if o.kind = 3 then (envF types ws o.var).getD own else own) = x := by
      rcases hx with ⟨h3, rfl⟩ | ⟨h3, h4⟩
      · exact ⟨ho, if_neg h3⟩
      · rw [if_pos h3, h4]
        refine ⟨?_, rfl⟩
        unfold envF at h4
        cases hf : ws.find? fun p => decide (p.var = o.var) with
        | none => rw [hf] at h4; cases h4
        | some q => rw [hf] at h4; exact hok _ (typedF_mem h4)
    refine IFF.mk (fun hb => ?_) (fun hb => ?_) <;> (try simp only [decide_eq_true_eq, decide_eq_false_iff_not, Bool.and_eq_true, Bool.or_eq_true, Bool.not_eq_true', Bool.not_eq_false', Bool.and_eq_false_iff, Bool.or_eq_false_iff, Bool.not_true, Bool.not_false, Int.not_lt, Int.not_le, Decidable.not_not, ne_eq] at hb)
    · refine ⟨?_, rfl⟩
      simp only [pairV, sideF]
      rw [if_neg hkind, if_neg henv, if_pos (by simp only [Vl.Zero]; grind)]
    · have hS : sideF (envF types ws) own o = if o.kind = 1 then (o.v.kind, valF o.v) else if o.kind = 3 then kindF ((envF types ws o.var).getD own) o.field else kindF own o.field := by
        unfold sideF; rw [if_neg hkind, if_neg henv, if_neg (by simp only [Vl.Zero]; grind)]
      rw [hS]
      refine IFF.mk (fun hb => ?_) (fun hb => ?_) <;> (try simp only [decide_eq_true_eq, decide_eq_false_iff_not, Bool.and_eq_true, Bool.or_eq_true, Bool.not_eq_true', Bool.not_eq_false', Bool.and_eq_false_iff, Bool.or_eq_false_iff, Bool.not_true, Bool.not_false, Int.not_lt, Int.not_le, Decidable.not_not, ne_eq] at hb)
      · refine CALL.pure (rValueFault_ok (v := o.v)) ?_
        (repeat apply EX.in)
        refine NEED.mk rfl ?_
        refine ⟨?_, rfl⟩
        rw [if_pos hb]; rfl
      · rw [if_neg hb, ← apply_ite (fun t => kindF t o.field), hxo.2]
        refine CALL.pure (rFieldAt_ok (t := x) hxo.1) ?_
        (repeat apply EX.in)
        refine NEED.mk rfl ?_
        rcases fieldsAt_idx (s := o.field) (l := x.fields) (j := 0) with ⟨h1, h2⟩ | ⟨i, hi, h1, h2⟩
        · refine IFF.yes' (by simpa using h1) ⟨?_, rfl⟩
          simp [pairV, kindF, h2]
        · refine IFF.no' (by simp [h1]) ?_
          have hr := hxo.1.fields.cell i hi
          rw [h1]
          refine NEED.mk ⟨hr.ne, by omega, by omega⟩ ?_
          (repeat apply EX.in)
          refine NEED.mk (by first | exact (ReadsAt.sub hr (1) (by simp) rfl).up | exact ReadsAt.sub hr (1) (by simp) rfl) ?_
          refine ⟨?_, rfl⟩
          simp [pairV, kindF, h2]
end Go.Proofs.YthaamalgeieijabDoor
