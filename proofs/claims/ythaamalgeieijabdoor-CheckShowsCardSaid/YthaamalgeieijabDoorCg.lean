/- Contracts: patterns, rules (the reference's side). No condition. -/
import Derived.Test.YthaamalgeieijabDoorCf
import Derived.Test.YthaamalgeieijabDoorPg
set_option linter.unusedVariables false
set_option linter.unusedSimpArgs false
namespace Go.Proofs.YthaamalgeieijabDoor
open Go

def partKinds (k : Int) : List Int := if k = 0 then [0, 1, 2] else if k = 1 then [0] else [1]
theorem rPatternFault_ok {tA wA aA : Option Addr} {types : List Typ} {tc wc ac tn wn an : Nat} {ws : List Pat} {ahead : List ByteArray} {p : Pat} {part : Int} {M L : Mem} (htn : tn = types.length) (hwn : wn = ws.length) (han : an = ahead.length)
    (h : Row M Typ.toV 2 tA tc types) (hok : ∀ t ∈ types, t.Ok M) (hw : Row M Pat.toV 18 wA wc ws) (hks : ∀ q ∈ ws, typedF types q.type ≠ none) (ha : Row M Value.string 1 aA ac ahead) (hp : p.Ok M) (hpart : part = 0 ∨ part = 1 ∨ part = 2) :
    Pure Tryd.prog 48 #[.slice tA tn tc, .slice wA wn wc, .slice aA an ac, p.toV, .int .i64 part] M L (.int .i64 (patF types (envF types ws) ahead (partKinds part) p)) := by
  subst htn hwn han
  refine Pure.of (rPatternFault_spec ?_)
  unfold vc_rPatternFault
  have e := patF.eq_1 types (envF types ws) ahead (partKinds part) p
  refine CALL.pure (rFreeName_ok) ?_
  (repeat apply EX.in)
  refine NEED.mk rfl ?_
  refine IFF.mk (fun hb => ?_) (fun hb => ?_) <;> (try simp only [decide_eq_true_eq, decide_eq_false_iff_not, Bool.and_eq_true, Bool.or_eq_true, Bool.not_eq_true', Bool.not_eq_false', Bool.and_eq_false_iff, Bool.or_eq_false_iff, Bool.not_true, Bool.not_false, Int.not_lt, Int.not_le, Decidable.not_not, ne_eq] at hb)
  · exact ⟨by rw [e, if_pos hb], rfl⟩
  rw [if_neg (by omega)] at e
  refine LOOP.to ahead.length (fun j => ahead.any (fun u => decide (u = p.var)) = (ahead.drop j).any (fun u => decide (u = p.var))) (by simp) ?_
  intro j again hj hI hag
  have hlen := (ha).len
  (repeat apply EX.in)
  refine NEED.mk ⟨rfl, rfl⟩ ?_
  refine IFF.mk (fun hb => ?_) (fun hb => ?_) <;> (try simp only [decide_eq_true_eq, decide_eq_false_iff_not, Bool.and_eq_true, Bool.or_eq_true, Bool.not_eq_true', Bool.not_eq_false', Bool.and_eq_false_iff, Bool.or_eq_false_iff, Bool.not_true, Bool.not_false, Int.not_lt, Int.not_le, Decidable.not_not, ne_eq] at hb)
  · have hlt : j < ahead.length := by simpa using hb
    have hr := (ha).cell j hlt
    have hd := drop_step hlt
    refine NEED.mk ⟨hr.ne, by omega, by omega⟩ ?_
    (repeat apply EX.in)
    refine NEED.mk (by first | exact hr.up | exact hr) ?_
    rw [hd, List.any_cons] at hI
    refine IFF.mk (fun hb => ?_) (fun hb => ?_) <;> (try simp only [decide_eq_true_eq, decide_eq_false_iff_not, Bool.and_eq_true, Bool.or_eq_true, Bool.not_eq_true', Bool.not_eq_false', Bool.and_eq_false_iff, Bool.or_eq_false_iff, Bool.not_true, Bool.not_false, Int.not_lt, Int.not_le, Decidable.not_not, ne_eq] at hb)
    · exact ⟨by rw [e, if_pos (by rw [hI]; simp [hb])], rfl⟩
    · refine NEED.mk (by unfold inI64; omega) ?_
      refine NEED.mk ⟨rfl, rfl⟩ ?_
      exact hag hlt (by rw [hI]; simp [hb])
  · have hd := drop_end (j := j) (l := ahead) (by simpa using hb)
    rw [hd, List.any_nil] at hI
    rw [hI, if_neg (by simp)] at e
    refine CALL.pure (rTypeNamed_ok (s := p.type) (by rfl) h) ?_
    (repeat apply EX.in)
    refine NEED.mk rfl ?_
    rcases typedF_idx (types := types) (s := p.type) with ⟨h1, h2⟩ | ⟨i, hi, h1, h2⟩
    · rw [h2] at e
      exact IFF.yes' (by simpa using h1) ⟨by rw [e], rfl⟩
    · rw [h2] at e
      dsimp only at e
      rw [h1]
      refine IFF.no' (by simp) ?_
      refine JOIN.at (α := Unit) (L := L) (fun _ => []) (fun _ => p.window ∈ partKinds part ∧ ¬ (p.window = 0 ∧ p.n ≠ 0)) (fun nx hnx => ?_) (fun _ hq1 => ?_)
      · repeat' (first
              | refine IFF.t ?_
              | refine IFF.f ?_
              | (refine IFF.mk (fun hb => ?_) (fun hb => ?_) <;> (try simp only [decide_eq_true_eq, decide_eq_false_iff_not, Bool.and_eq_true, Bool.or_eq_true, Bool.not_eq_true', Bool.not_eq_false', Bool.and_eq_false_iff, Bool.or_eq_false_iff, Bool.not_true, Bool.not_false, Int.not_lt, Int.not_le, Decidable.not_not, ne_eq] at hb))
              | refine CALL.pure (rIn_ok) ?_
              | refine NEED.mk ⟨rfl, rfl⟩ ?_
              | refine NEED.mk rfl ?_
              | refine EX.in _ (NEED.mk rfl ?_)
              | refine EX.in _ (EX.in _ (NEED.mk rfl ?_))
              | refine EX.in _ (EX.in _ (EX.in _ (NEED.mk rfl ?_)))
              | refine NEED.mk ⟨trivial, trivial⟩ ?_
              | refine NEED.mk (by unfold inI64; omega) ?_
              | fail)
        all_goals first
          | (refine ⟨?_, rfl⟩; rw [e, show windF (partKinds part) p = 4 by unfold windF partKinds; grind]; rfl)
          | (refine hnx () ?_; unfold partKinds; grind)
      refine NEED.mk ⟨rfl, rfl⟩ ?_
      have ew : windF (partKinds part) p = if (p.window = 1 ∧ (p.n < 0 ∨ 1073741824 < p.n)) ∨ (p.window = 2 ∧ (p.n < 1 ∨ 120 < p.n)) then 2 else 0 := by
        unfold windF; rw [if_neg (by grind)]
      refine JOIN.at (α := Unit) (L := L) (fun _ => []) (fun _ => windF (partKinds part) p = 0) (fun nx hnx => ?_) (fun _ hq2 => ?_)
      · repeat' (first
              | refine IFF.t ?_
              | refine IFF.f ?_
              | (refine IFF.mk (fun hb => ?_) (fun hb => ?_) <;> (try simp only [decide_eq_true_eq, decide_eq_false_iff_not, Bool.and_eq_true, Bool.or_eq_true, Bool.not_eq_true', Bool.not_eq_false', Bool.and_eq_false_iff, Bool.or_eq_false_iff, Bool.not_true, Bool.not_false, Int.not_lt, Int.not_le, Decidable.not_not, ne_eq] at hb))
              | refine CALL.pure (rIn_ok) ?_
              | refine NEED.mk ⟨rfl, rfl⟩ ?_
              | refine NEED.mk rfl ?_
              | refine EX.in _ (NEED.mk rfl ?_)
              | refine EX.in _ (EX.in _ (NEED.mk rfl ?_))
              | refine EX.in _ (EX.in _ (EX.in _ (NEED.mk rfl ?_)))
              | refine NEED.mk ⟨trivial, trivial⟩ ?_
              | refine NEED.mk (by unfold inI64; omega) ?_
              | fail)
        all_goals first
          | (refine ⟨?_, rfl⟩; rw [e, show windF (partKinds part) p = 2 by rw [ew]; grind]; rfl)
          | (refine hnx () ?_; rw [ew]; grind)
      refine NEED.mk ⟨rfl, rfl⟩ ?_
      rw [if_neg (by omega)] at e
      refine CALL.pure (rNoCondition_ok (c := p.whr)) ?_
      (repeat apply EX.in)
      refine NEED.mk rfl ?_
      refine IFF.mk (fun hb => ?_) (fun hb => ?_) <;> (try simp only [decide_eq_true_eq, decide_eq_false_iff_not, Bool.and_eq_true, Bool.or_eq_true, Bool.not_eq_true', Bool.not_eq_false', Bool.and_eq_false_iff, Bool.or_eq_false_iff, Bool.not_true, Bool.not_false, Int.not_lt, Int.not_le, Decidable.not_not, ne_eq] at hb)
      · exact ⟨by rw [e, if_pos hb], rfl⟩
      rw [if_neg hb] at e
      have hr := h.cell i hi
      refine NEED.mk ⟨hr.ne, by omega, by omega⟩ ?_
      (repeat apply EX.in)
      refine NEED.mk (by first | exact hr.up | exact hr) ?_
      refine CALL.q (rConditionFault_ok (own := types[i]) (by rfl) (by rfl) h hok hw hks (hok _ (List.getElem_mem hi)) 8 p.whr 1 (by decide) (by omega) hp.whr) ?_
      rintro v ⟨n, rfl, hn⟩
      (repeat apply EX.in)
      refine NEED.mk rfl ?_
      exact ⟨by rw [e], rfl⟩
theorem notsF_zero {types : List Typ} {env : Envs} : ∀ {l : List Pat} {taken : List ByteArray}, notsF types env taken l = 0 → ∀ s, taken.any (fun u => decide (u = s)) = true → inF l s = false
  | [], taken, h, s, hs => rfl
  | p :: l, taken, h, s, hs => by
    rw [notsF] at h
    split at h
    · rename_i h1; exact absurd h h1
    · rename_i h1
      obtain ⟨_, h2, _⟩ := patF_zero (by omega : patF types env taken [0] p = 0)
      have h3 := notsF_zero h s (by simp [hs])
      have h4 : p.var ≠ s := fun e => by subst e; rw [h2] at hs; cases hs
      simp only [inF, List.any_cons] at h3 ⊢
      rw [h3]; simp [h4]
theorem chainF {a w R : Int} : (if (if a ≠ 0 then a else w) ≠ 0 then (if a ≠ 0 then a else w) else R) = if a ≠ 0 then a else if w ≠ 0 then w else R := by
  by_cases h : a = 0 <;> simp [h]
theorem inF_map {l : List Pat} {s : ByteArray} : inF l s = (l.map (·.var)).any (fun u => decide (u = s)) := by
  rw [inF, List.any_map]; rfl
theorem rRuleFault_ok {tA : Option Addr} {types : List Typ} {tc tn : Nat} {x : Rul} {M L : Mem} (htn : tn = types.length) (h : Row M Typ.toV 2 tA tc types) (hok : ∀ t ∈ types, t.Ok M) (hx : x.Ok M) :
    Pure Tryd.prog 25 #[.slice tA tn tc, x.toV] M L (.int .i64 (ruleF types x)) := by
  subst htn
  refine Pure.of' (rRuleFault_spec ?_)
  unfold vc_rRuleFault
  have e := ruleF.eq_1 types x
  refine CALL.pure (rFreeName_ok) ?_
  (repeat apply EX.in)
  refine NEED.mk rfl ?_
  have hlw := hx.whens.len
  have hln := hx.nots.len
  have hlm := hx.manies.len
  have hll := hx.links.len
  refine JOIN.at (L := L) (fun e : Int => [.int .i64 e]) (fun e => e = if freeF x.name ≠ 0 then freeF x.name else if x.whens.length < 1 ∨ 3 < x.whens.length ∨ 2 < x.nots.length ∨ 2 < x.manies.length ∨ 6 < x.links.length then 1 else 0) (fun nx hnx => ?_) (fun e0 he0 => ?_)
  · repeat' (first
          | refine IFF.t ?_
          | refine IFF.f ?_
          | (refine IFF.mk (fun hb => ?_) (fun hb => ?_) <;> (try simp only [decide_eq_true_eq, decide_eq_false_iff_not, Bool.and_eq_true, Bool.or_eq_true, Bool.not_eq_true', Bool.not_eq_false', Bool.and_eq_false_iff, Bool.or_eq_false_iff, Bool.not_true, Bool.not_false, Int.not_lt, Int.not_le, Decidable.not_not, ne_eq] at hb))
          | refine CALL.pure (rIn_ok) ?_
          | refine NEED.mk ⟨rfl, rfl⟩ ?_
          | refine NEED.mk rfl ?_
          | refine EX.in _ (NEED.mk rfl ?_)
          | refine EX.in _ (EX.in _ (NEED.mk rfl ?_))
          | refine EX.in _ (EX.in _ (EX.in _ (NEED.mk rfl ?_)))
          | refine NEED.mk ⟨trivial, trivial⟩ ?_
          | refine NEED.mk (by unfold inI64; omega) ?_
          | fail)
    all_goals exact hnx _ (by clear hnx e; grind)
  (repeat apply EX.in)
  refine NEED.mk ⟨rfl, rfl⟩ ?_
  have hbig : e0 = 0 → x.whens.length ≤ 3 ∧ x.nots.length ≤ 2 ∧ x.manies.length ≤ 2 ∧ x.links.length ≤ 6 := by
    intro h0; rw [h0] at he0; grind
  have hstr1 : ∀ s : ByteArray, (Value.string s).cells.size = 1 := fun s => rfl
  have hstr2 : ∀ s : ByteArray, ∀ u ∈ (Value.string s).cells.toList, u.oneCell' = true := fun s u hu => by simp [Value.cells] at hu; subst hu; rfl
  have r1 : ruleF types x = if e0 ≠ 0 then e0 else if whensF types [] x.whens ≠ 0 then whensF types [] x.whens else
      if notsF types (envF types x.whens) (x.whens.map (·.var)) x.nots ≠ 0 then notsF types (envF types x.whens) (x.whens.map (·.var)) x.nots else
      if maniesF types (envF types x.whens) (x.whens.map (·.var) ++ x.nots.map (·.var)) x.manies ≠ 0 then maniesF types (envF types x.whens) (x.whens.map (·.var) ++ x.nots.map (·.var)) x.manies else
      if linksF x x.links ≠ 0 then linksF x x.links else emitF types (envF types x.whens) x := by
    rw [e, he0]; clear e he0 hbig; grind
  clear e
  generalize hR1 : (if notsF types (envF types x.whens) (x.whens.map (·.var)) x.nots ≠ 0 then notsF types (envF types x.whens) (x.whens.map (·.var)) x.nots else
      if maniesF types (envF types x.whens) (x.whens.map (·.var) ++ x.nots.map (·.var)) x.manies ≠ 0 then maniesF types (envF types x.whens) (x.whens.map (·.var) ++ x.nots.map (·.var)) x.manies else
      if linksF x x.links ≠ 0 then linksF x x.links else emitF types (envF types x.whens) x) = R1 at r1
  refine LOOP.gen (fun s : Int × List ByteArray × Option Addr × Nat × Nat × Mem × Mem => ([.int .i64 s.1, .slice s.2.2.1 s.2.1.length s.2.2.2.1, .int .i64 (s.2.2.2.2.1 : Int)], [], s.2.2.2.2.2.1, s.2.2.2.2.2.2))
    (fun s => s.2.2.2.2.1 ≤ x.whens.length ∧ Owns L s.2.2.2.2.2.1 s.2.2.2.2.2.2 Value.string 9 1 s.2.2.1 s.2.2.2.1 s.2.1 ∧ s.2.1.length ≤ 3 ∧ (s.1 = 0 → e0 = 0 ∧ s.2.1 = (x.whens.take s.2.2.2.2.1).map (·.var) ∧ ∀ q ∈ x.whens.take s.2.2.2.2.1, typedF types q.type ≠ none) ∧
      ruleF types x = if s.1 ≠ 0 then s.1 else if whensF types (x.whens.take s.2.2.2.2.1) (x.whens.drop s.2.2.2.2.1) ≠ 0 then whensF types (x.whens.take s.2.2.2.2.1) (x.whens.drop s.2.2.2.2.1) else R1)
    (fun s => x.whens.length - s.2.2.2.2.1) (e0, [], none, 0, 0, M, L) rfl ⟨by simp, .nil, by simp, fun h0 => ⟨h0, rfl, by simp⟩, r1⟩ ?_
  rintro ⟨e1, items, A, c, j, M1, L1⟩ again hM1 ⟨hj, hO, hn3, hz, hI⟩ hag
  dsimp only at hM1 hj hO hn3 hz hI hag ⊢
  have hx1 := hx.mono hM1
  have h1 := h.mono hM1
  have hok1 : ∀ t ∈ types, t.Ok M1 := fun t ht => (hok t ht).mono hM1
  (repeat apply EX.in)
  refine NEED.mk ⟨rfl, rfl⟩ ?_
  refine IFF.mk (fun hb => ?_) (fun hb => ?_) <;> (try simp only [decide_eq_true_eq, decide_eq_false_iff_not, Bool.and_eq_true, Bool.or_eq_true, Bool.not_eq_true', Bool.not_eq_false', Bool.and_eq_false_iff, Bool.or_eq_false_iff, Bool.not_true, Bool.not_false, Int.not_lt, Int.not_le, Decidable.not_not, ne_eq] at hb)
  · obtain ⟨hb1, he1⟩ := hb
    obtain ⟨hz0, hz1, hz2⟩ := hz he1
    have hlt : j < x.whens.length := by omega
    have hr := hx1.whens.cell j hlt
    have hd := drop_step hlt
    have hs := take_step hlt
    have hle := hx1.whens.le
    refine NEED.mk ⟨by omega, by omega⟩ (NEED.mk ⟨hr.ne, by omega, by omega⟩ ?_)
    (repeat apply EX.in)
    refine NEED.mk (by first | exact hr.up | exact hr) ?_
    have hup := Mem.le_or M1 L1
    refine CALL.pure (Pure.borrow (rPatternFault_ok (part := 0) (p := x.whens[j]) (ws := x.whens.take j) (by rfl) (by simp; omega) (by rfl) (h1.mono hup) (fun t ht => (hok1 t ht).mono hup) ((hx1.whens.take j).mono hup) hz2 (hO.read hstr1) ((hx1.when _ (List.getElem_mem hlt)).mono hup) (.inl rfl))) ?_
    (repeat apply EX.in)
    refine NEED.mk rfl ?_
    rw [he1, if_neg (by simp), hd, whensF] at hI
    refine NEED.mk ⟨hr.ne, by omega, by omega⟩ ?_
    (repeat apply EX.in)
    refine NEED.mk (by first | exact (ReadsAt.sub hr (0) (by simp) rfl).up | exact ReadsAt.sub hr (0) (by simp) rfl) ?_
    refine ⟨fun g hMg hLg => ?_⟩
    have hbg := hbig hz0
    refine GROW.use (toV := Value.string) (news := [x.whens[j].var]) (hO.newM hLg) hstr1 hstr2 rfl (ReadsL.one (x := x.whens[j].var) (Mem.upd_self _ _ _)) (by decide) (by omega) fun A' c' L' hO' _ => ?_
    refine NEED.mk (by unfold inI64; omega) ?_
    refine NEED.mk ⟨rfl, rfl⟩ ?_
    have hll' : items.length + 1 = (items ++ [x.whens[j].var]).length := by simp
    rw [hll']
    have hitems : items.length = j := by rw [hz1]; simp; omega
    refine hag (_, _, _, _, j + 1, _, _) ⟨hlt, hO', by simp; omega, fun h0 => ⟨hz0, by rw [hs, hz1, List.map_append]; rfl, ?_⟩, ?_⟩ (by dsimp only; omega)
    · rw [hs]
      intro q hq
      rcases List.mem_append.1 hq with hq | hq
      · exact hz2 q hq
      · obtain ⟨_, _, t, ht, _⟩ := patF_zero h0
        rw [List.mem_singleton] at hq
        rw [hq, ht]; simp
    · rw [hI, hs]
      have : partKinds 0 = [0, 1, 2] := rfl
      rw [hz1, this]; exact chainF
  have hrest : ruleF types x = if e1 ≠ 0 then e1 else R1 := by
    by_cases h0 : e1 = 0
    · have : j = x.whens.length := by omega
      subst this
      rw [hI, List.drop_length]; simp [whensF, h0]
    · rw [hI, if_pos h0, if_pos h0]
  have hz' : e1 = 0 → e0 = 0 ∧ items = x.whens.map (·.var) ∧ ∀ q ∈ x.whens, typedF types q.type ≠ none := by
    intro h0
    obtain ⟨hz0, hz1, hz2⟩ := hz h0
    have : j = x.whens.length := by omega
    subst this
    rw [List.take_length] at hz1 hz2
    exact ⟨hz0, hz1, hz2⟩
  clear hag hI hz hb hj again r1
  generalize hR2 : (if maniesF types (envF types x.whens) (x.whens.map (·.var) ++ x.nots.map (·.var)) x.manies ≠ 0 then maniesF types (envF types x.whens) (x.whens.map (·.var) ++ x.nots.map (·.var)) x.manies else
      if linksF x x.links ≠ 0 then linksF x x.links else emitF types (envF types x.whens) x) = R2 at hR1
  refine LOOP.gen (fun s : Int × List ByteArray × Option Addr × Nat × Nat × Mem × Mem => ([.int .i64 s.1, .slice s.2.2.1 s.2.1.length s.2.2.2.1, .int .i64 (s.2.2.2.2.1 : Int)], [], s.2.2.2.2.2.1, s.2.2.2.2.2.2))
    (fun s => s.2.2.2.2.1 ≤ x.nots.length ∧ Owns L s.2.2.2.2.2.1 s.2.2.2.2.2.2 Value.string 9 1 s.2.2.1 s.2.2.2.1 s.2.1 ∧ s.2.1.length ≤ 5 ∧ (s.1 = 0 → e1 = 0 ∧ s.2.1 = x.whens.map (·.var) ++ (x.nots.take s.2.2.2.2.1).map (·.var) ∧ notsF types (envF types x.whens) (x.whens.map (·.var)) x.nots = notsF types (envF types x.whens) (x.whens.map (·.var) ++ (x.nots.take s.2.2.2.2.1).map (·.var)) (x.nots.drop s.2.2.2.2.1)) ∧
      ruleF types x = if s.1 ≠ 0 then s.1 else if notsF types (envF types x.whens) (x.whens.map (·.var) ++ (x.nots.take s.2.2.2.2.1).map (·.var)) (x.nots.drop s.2.2.2.2.1) ≠ 0 then notsF types (envF types x.whens) (x.whens.map (·.var) ++ (x.nots.take s.2.2.2.2.1).map (·.var)) (x.nots.drop s.2.2.2.2.1) else R2)
    (fun s => x.nots.length - s.2.2.2.2.1) (e1, items, A, c, 0, M1, L1) rfl ⟨by simp, hO, by dsimp only; omega, fun h0 => ⟨h0, by simpa using (hz' h0).2.1, by simp⟩, by simpa [hR1] using hrest⟩ ?_
  rintro ⟨e2, items2, A2, c2, j, M2, L2⟩ again hM2 ⟨hj, hO2, hn5, hz, hI⟩ hag
  dsimp only at hM2 hj hO2 hn5 hz hI hag ⊢
  have hx2 := hx1.mono hM2
  have h2 := h1.mono hM2
  have hok2 : ∀ t ∈ types, t.Ok M2 := fun t ht => (hok1 t ht).mono hM2
  (repeat apply EX.in)
  refine NEED.mk ⟨rfl, rfl⟩ ?_
  refine IFF.mk (fun hb => ?_) (fun hb => ?_) <;> (try simp only [decide_eq_true_eq, decide_eq_false_iff_not, Bool.and_eq_true, Bool.or_eq_true, Bool.not_eq_true', Bool.not_eq_false', Bool.and_eq_false_iff, Bool.or_eq_false_iff, Bool.not_true, Bool.not_false, Int.not_lt, Int.not_le, Decidable.not_not, ne_eq] at hb)
  · obtain ⟨hb1, he2⟩ := hb
    obtain ⟨hz1, hzi, hzn⟩ := hz he2
    obtain ⟨hz0, _, hks⟩ := hz' hz1
    have hlt : j < x.nots.length := by omega
    have hr := hx2.nots.cell j hlt
    have hd := drop_step hlt
    have hs := take_step hlt
    refine NEED.mk ⟨hr.ne, by omega, by omega⟩ ?_
    (repeat apply EX.in)
    refine NEED.mk (by first | exact hr.up | exact hr) ?_
    have hup := Mem.le_or M2 L2
    refine CALL.pure (Pure.borrow (rPatternFault_ok (part := 1) (p := x.nots[j]) (ws := x.whens) (by rfl) (by rfl) (by rfl) (h2.mono hup) (fun t ht => (hok2 t ht).mono hup) (hx2.whens.mono hup) hks (hO2.read hstr1) ((hx2.not _ (List.getElem_mem hlt)).mono hup) (.inr (.inl rfl)))) ?_
    (repeat apply EX.in)
    refine NEED.mk rfl ?_
    rw [he2, if_neg (by simp), hd, notsF] at hI
    rw [hd, notsF] at hzn
    refine NEED.mk ⟨hr.ne, by omega, by omega⟩ ?_
    (repeat apply EX.in)
    refine NEED.mk (by first | exact (ReadsAt.sub hr (0) (by simp) rfl).up | exact ReadsAt.sub hr (0) (by simp) rfl) ?_
    refine ⟨fun g hMg hLg => ?_⟩
    have hbg := hbig hz0
    refine GROW.use (toV := Value.string) (news := [x.nots[j].var]) (hO2.newM hLg) hstr1 hstr2 rfl (ReadsL.one (x := x.nots[j].var) (Mem.upd_self _ _ _)) (by decide) (by omega) fun A' c' L' hO' _ => ?_
    refine NEED.mk (by unfold inI64; omega) ?_
    refine NEED.mk ⟨rfl, rfl⟩ ?_
    have hll' : items2.length + 1 = (items2 ++ [x.nots[j].var]).length := by simp
    rw [hll']
    have hsn : x.whens.map (·.var) ++ (x.nots.take (j + 1)).map (·.var) = x.whens.map (·.var) ++ (x.nots.take j).map (·.var) ++ [x.nots[j].var] := by rw [hs, List.map_append, ← List.append_assoc]; rfl
    have hitems : items2.length = x.whens.length + j := by rw [hzi]; simp; omega
    refine hag (_, _, _, _, j + 1, _, _) ⟨hlt, hO', by simp; omega, fun h0 => ⟨hz1, by rw [hsn, hzi], ?_⟩, ?_⟩ (by dsimp only; omega)
    · have : partKinds 1 = [0] := rfl
      have h0' : patF types (envF types x.whens) items2 (partKinds 1) x.nots[j] = 0 := h0
      rw [hzi, this] at h0'
      rw [hzn, if_neg (fun h => h h0'), hsn]
    rw [hI, hsn]
    have : partKinds 1 = [0] := rfl
    rw [hzi, this]; exact chainF
  have hrest2 : ruleF types x = if e2 ≠ 0 then e2 else R2 := by
    by_cases h0 : e2 = 0
    · have : j = x.nots.length := by omega
      subst this
      rw [hI, List.drop_length]; simp [notsF, h0]
    · rw [hI, if_pos h0, if_pos h0]
  have hz2 : e2 = 0 → e0 = 0 ∧ items2 = x.whens.map (·.var) ++ x.nots.map (·.var) ∧ (∀ q ∈ x.whens, typedF types q.type ≠ none) ∧ notsF types (envF types x.whens) (x.whens.map (·.var)) x.nots = 0 := by
    intro h0
    obtain ⟨hz1, hzi, hzn⟩ := hz h0
    have : j = x.nots.length := by omega
    subst this
    rw [List.take_length] at hzi
    rw [List.drop_length] at hzn
    exact ⟨(hz' hz1).1, hzi, (hz' hz1).2.2, hzn⟩
  clear hag hI hz hb hj again hrest hR1 hz'
  generalize hR3 : (if linksF x x.links ≠ 0 then linksF x x.links else emitF types (envF types x.whens) x) = R3 at hR2
  refine LOOP.gen (fun s : Int × List ByteArray × Option Addr × Nat × Nat × Mem × Mem => ([.int .i64 s.1, .slice s.2.2.1 s.2.1.length s.2.2.2.1, .int .i64 (s.2.2.2.2.1 : Int)], [], s.2.2.2.2.2.1, s.2.2.2.2.2.2))
    (fun s => s.2.2.2.2.1 ≤ x.manies.length ∧ Owns L s.2.2.2.2.2.1 s.2.2.2.2.2.2 Value.string 9 1 s.2.2.1 s.2.2.2.1 s.2.1 ∧ s.2.1.length ≤ 7 ∧ (s.1 = 0 → e2 = 0 ∧ s.2.1 = x.whens.map (·.var) ++ x.nots.map (·.var) ++ (x.manies.take s.2.2.2.2.1).map (·.pat.var)) ∧
      ruleF types x = if s.1 ≠ 0 then s.1 else if maniesF types (envF types x.whens) (x.whens.map (·.var) ++ x.nots.map (·.var) ++ (x.manies.take s.2.2.2.2.1).map (·.pat.var)) (x.manies.drop s.2.2.2.2.1) ≠ 0 then maniesF types (envF types x.whens) (x.whens.map (·.var) ++ x.nots.map (·.var) ++ (x.manies.take s.2.2.2.2.1).map (·.pat.var)) (x.manies.drop s.2.2.2.2.1) else R3)
    (fun s => x.manies.length - s.2.2.2.2.1) (e2, items2, A2, c2, 0, M2, L2) rfl ⟨by simp, hO2, by dsimp only; omega, fun h0 => ⟨h0, by simpa using (hz2 h0).2.1⟩, by simpa [hR2] using hrest2⟩ ?_
  rintro ⟨e3, items3, A3, c3, j, M3, L3⟩ again hM3 ⟨hj, hO3, hn7, hz, hI⟩ hag
  dsimp only at hM3 hj hO3 hn7 hz hI hag ⊢
  have hx3 := hx2.mono hM3
  have h3 := h2.mono hM3
  have hok3 : ∀ t ∈ types, t.Ok M3 := fun t ht => (hok2 t ht).mono hM3
  (repeat apply EX.in)
  refine NEED.mk ⟨rfl, rfl⟩ ?_
  refine IFF.mk (fun hb => ?_) (fun hb => ?_) <;> (try simp only [decide_eq_true_eq, decide_eq_false_iff_not, Bool.and_eq_true, Bool.or_eq_true, Bool.not_eq_true', Bool.not_eq_false', Bool.and_eq_false_iff, Bool.or_eq_false_iff, Bool.not_true, Bool.not_false, Int.not_lt, Int.not_le, Decidable.not_not, ne_eq] at hb)
  · obtain ⟨hb1, he3⟩ := hb
    obtain ⟨hz1, hzi⟩ := hz he3
    obtain ⟨hz0, _, hks, _⟩ := hz2 hz1
    have hlt : j < x.manies.length := by omega
    have hr := hx3.manies.cell j hlt
    have hd := drop_step hlt
    have hs := take_step hlt
    refine NEED.mk ⟨hr.ne, by omega, by omega⟩ ?_
    (repeat apply EX.in)
    refine NEED.mk (by first | exact hr.up | exact hr) ?_
    rw [he3, if_neg (by simp), hd, maniesF] at hI
    have em := manyF.eq_1 types (envF types x.whens) (x.whens.map (·.var) ++ x.nots.map (·.var) ++ (x.manies.take j).map (·.pat.var)) x.manies[j]
    refine JOIN.at (α := Unit) (L := L3) (fun _ => []) (fun _ => ¬ ((x.manies[j].field = emptyS ∧ (x.manies[j].count < 1 ∨ 120 < x.manies[j].count)) ∨ x.manies[j].count < 0 ∨ 1125899906842624 < x.manies[j].count)) (fun nx hnx => ?_) (fun _ hq => ?_)
    · have no : ((x.manies[j].field = emptyS ∧ (x.manies[j].count < 1 ∨ 120 < x.manies[j].count)) ∨ x.manies[j].count < 0 ∨ 1125899906842624 < x.manies[j].count) → (Value.int .i64 2 = Value.int .i64 (ruleF types x)) ∧ L.le L3 := fun hh => by
        rw [if_pos hh] at em
        exact ⟨by rw [hI, em]; simp, hO3.le⟩
      repeat' (first
            | refine IFF.t ?_
            | refine IFF.f ?_
            | (refine IFF.mk (fun hb => ?_) (fun hb => ?_) <;> (try simp only [decide_eq_true_eq, decide_eq_false_iff_not, Bool.and_eq_true, Bool.or_eq_true, Bool.not_eq_true', Bool.not_eq_false', Bool.and_eq_false_iff, Bool.or_eq_false_iff, Bool.not_true, Bool.not_false, Int.not_lt, Int.not_le, Decidable.not_not, ne_eq] at hb))
            | refine CALL.pure (rIn_ok) ?_
            | refine NEED.mk ⟨rfl, rfl⟩ ?_
            | refine NEED.mk rfl ?_
            | refine EX.in _ (NEED.mk rfl ?_)
            | refine EX.in _ (EX.in _ (NEED.mk rfl ?_))
            | refine EX.in _ (EX.in _ (EX.in _ (NEED.mk rfl ?_)))
            | refine NEED.mk ⟨trivial, trivial⟩ ?_
            | refine NEED.mk (by unfold inI64; omega) ?_
            | fail)
      all_goals first
        | (refine no ?_; clear hI em hag hz; grind)
        | (refine hnx () ?_; clear hI em hag hz; grind)
    rw [if_neg hq] at em
    refine NEED.mk ⟨rfl, rfl⟩ ?_
    have hup := Mem.le_or M3 L3
    refine CALL.pure (Pure.borrow (rPatternFault_ok (part := 2) (p := x.manies[j].pat) (ws := x.whens) (by rfl) (by rfl) (by rfl) (h3.mono hup) (fun t ht => (hok3 t ht).mono hup) (hx3.whens.mono hup) hks (hO3.read hstr1) ((hx3.many _ (List.getElem_mem hlt)).mono hup) (.inr (.inr rfl)))) ?_
    (repeat apply EX.in)
    refine NEED.mk rfl ?_
    rw [show partKinds 2 = [1] from rfl]
    have hbg := hbig hz0
    have hll' : items3.length + 1 = (items3 ++ [x.manies[j].pat.var]).length := by simp
    have hsn : x.whens.map (·.var) ++ x.nots.map (·.var) ++ (x.manies.take (j + 1)).map (·.pat.var) = x.whens.map (·.var) ++ x.nots.map (·.var) ++ (x.manies.take j).map (·.pat.var) ++ [x.manies[j].pat.var] := by rw [hs, List.map_append, ← List.append_assoc]; rfl
    have hitems : items3.length = x.whens.length + x.nots.length + j := by rw [hzi]; simp; omega
    have next : ∀ A' c' M' L', Owns L M' L' Value.string 9 1 A' c' (items3 ++ [x.manies[j].pat.var]) → again [.int .i64 (manyF types (envF types x.whens) items3 x.manies[j]), .slice A' (items3.length + 1) c', .int .i64 ((j : Int) + 1)] [] M' L' := by
      intro A' c' M' L' hO'
      rw [hll']
      refine hag (_, _, _, _, j + 1, _, _) ⟨hlt, hO', by simp; omega, fun h0 => ⟨hz1, by rw [hsn, hzi]⟩, ?_⟩ (by dsimp only; omega)
      rw [hI, hsn, hzi]; exact chainF
    rw [← hzi] at em
    refine IFF.mk (fun hb => ?_) (fun hb => ?_) <;> (try simp only [decide_eq_true_eq, decide_eq_false_iff_not, Bool.and_eq_true, Bool.or_eq_true, Bool.not_eq_true', Bool.not_eq_false', Bool.and_eq_false_iff, Bool.or_eq_false_iff, Bool.not_true, Bool.not_false, Int.not_lt, Int.not_le, Decidable.not_not, ne_eq] at hb)
    · obtain ⟨hb2, hb3⟩ := hb
      rw [if_neg (by omega), if_neg hb3] at em
      obtain ⟨_, _, t, ht, _⟩ := patF_zero hb2
      rw [ht] at em
      dsimp only at em
      refine CALL.pure (rTypeNamed_ok (s := x.manies[j].pat.type) (by rfl) h3) ?_
      (repeat apply EX.in)
      refine NEED.mk rfl ?_
      rcases typedF_idx (types := types) (s := x.manies[j].pat.type) with ⟨q1, q2⟩ | ⟨i, hi, q1, q2⟩
      · rw [ht] at q2; cases q2
      · rw [ht] at q2
        injection q2 with q2
        rw [q1]
        have hrt := h3.cell i hi
        refine NEED.mk ⟨hrt.ne, by omega, by omega⟩ ?_
        (repeat apply EX.in)
        refine NEED.mk hrt.up ?_
        refine CALL.pure (rSumFault_ok (t := types[i]) (s := x.manies[j].field) (hok3 _ (List.getElem_mem hi))) ?_
        (repeat apply EX.in)
        refine NEED.mk rfl ?_
        rw [← q2, ← em]
        refine NEED.mk ⟨hr.ne, by omega, by omega⟩ ?_
        (repeat apply EX.in)
        refine NEED.mk (by first | exact (ReadsAt.sub hr (2) (by simp) rfl).up | exact ReadsAt.sub hr (2) (by simp) rfl) ?_
        refine ⟨fun g hMg hLg => ?_⟩
        refine GROW.use (toV := Value.string) (news := [x.manies[j].pat.var]) (hO3.newM hLg) hstr1 hstr2 rfl (ReadsL.one (x := x.manies[j].pat.var) (Mem.upd_self _ _ _)) (by decide) (by omega) fun A' c' L' hO' _ => ?_
        refine NEED.mk (by unfold inI64; omega) ?_
        refine NEED.mk ⟨rfl, rfl⟩ ?_
        exact next _ _ _ _ hO'
    · have em' : manyF types (envF types x.whens) items3 x.manies[j] = patF types (envF types x.whens) items3 [1] x.manies[j].pat := by
        rw [em]
        by_cases hp0 : patF types (envF types x.whens) items3 [1] x.manies[j].pat = 0
        · rw [if_neg (by simpa using hp0), if_pos (by grind), hp0]
        · rw [if_pos hp0]
      rw [← em']
      refine NEED.mk ⟨hr.ne, by omega, by omega⟩ ?_
      (repeat apply EX.in)
      refine NEED.mk (by first | exact (ReadsAt.sub hr (2) (by simp) rfl).up | exact ReadsAt.sub hr (2) (by simp) rfl) ?_
      refine ⟨fun g hMg hLg => ?_⟩
      refine GROW.use (toV := Value.string) (news := [x.manies[j].pat.var]) (hO3.newM hLg) hstr1 hstr2 rfl (ReadsL.one (x := x.manies[j].pat.var) (Mem.upd_self _ _ _)) (by decide) (by omega) fun A' c' L' hO' _ => ?_
      refine NEED.mk (by unfold inI64; omega) ?_
      refine NEED.mk ⟨rfl, rfl⟩ ?_
      exact next _ _ _ _ hO'
  have hrest3 : ruleF types x = if e3 ≠ 0 then e3 else R3 := by
    by_cases h0 : e3 = 0
    · have : j = x.manies.length := by omega
      subst this
      rw [hI, List.drop_length]; simp [maniesF, h0]
    · rw [hI, if_pos h0, if_pos h0]
  have hz3 : e3 = 0 → (∀ q ∈ x.whens, typedF types q.type ≠ none) ∧ notsF types (envF types x.whens) (x.whens.map (·.var)) x.nots = 0 := fun h0 => (hz2 (hz h0).1).2.2
  clear hag hI hz hb hj again hrest2 hR2 hz2
  refine LOOP.toS x.links.length (fun (e : Int) j => [.int .i64 e, .int .i64 (j : Int)]) (fun e j => (e = 0 → e3 = 0) ∧ ruleF types x = if e ≠ 0 then e else if linksF x (x.links.drop j) ≠ 0 then linksF x (x.links.drop j) else emitF types (envF types x.whens) x) e3 rfl ⟨fun h => h, by simpa [hR3] using hrest3⟩ ?_
  rintro e4 j again hj ⟨hz, hI⟩ hag
  (repeat apply EX.in)
  refine NEED.mk ⟨rfl, rfl⟩ ?_
  refine IFF.mk (fun hb => ?_) (fun hb => ?_) <;> (try simp only [decide_eq_true_eq, decide_eq_false_iff_not, Bool.and_eq_true, Bool.or_eq_true, Bool.not_eq_true', Bool.not_eq_false', Bool.and_eq_false_iff, Bool.or_eq_false_iff, Bool.not_true, Bool.not_false, Int.not_lt, Int.not_le, Decidable.not_not, ne_eq] at hb)
  · obtain ⟨hb1, he4⟩ := hb
    have hz1 := hz he4
    obtain ⟨hks, hn0⟩ := hz3 hz1
    have hlt : j < x.links.length := by omega
    have hr := hx3.links.cell j hlt
    have hd := drop_step hlt
    refine NEED.mk ⟨hr.ne, by omega, by omega⟩ ?_
    (repeat apply EX.in)
    refine NEED.mk (by first | exact hr.up | exact hr) ?_
    rw [he4, if_neg (by simp), hd, linksF] at hI
    refine CALL.pure (rLinkFault_ok (k := x.links[j]) hx3 (hx3.link _ (List.getElem_mem hlt)) (fun s hs => notsF_zero hn0 s (by rw [← inF_map]; exact hs))) ?_
    (repeat apply EX.in)
    refine NEED.mk rfl ?_
    refine NEED.mk (by unfold inI64; omega) ?_
    refine NEED.mk ⟨rfl, rfl⟩ ?_
    exact hag _ hlt ⟨fun _ => hz1, by rw [hI]; exact chainF⟩
  have hrest4 : ruleF types x = if e4 ≠ 0 then e4 else emitF types (envF types x.whens) x := by
    by_cases h0 : e4 = 0
    · have : j = x.links.length := by omega
      subst this
      rw [hI, List.drop_length]; simp [linksF, h0]
    · rw [hI, if_pos h0, if_pos h0]
  refine IFF.mk (fun hb => ?_) (fun hb => ?_) <;> (try simp only [decide_eq_true_eq, decide_eq_false_iff_not, Bool.and_eq_true, Bool.or_eq_true, Bool.not_eq_true', Bool.not_eq_false', Bool.and_eq_false_iff, Bool.or_eq_false_iff, Bool.not_true, Bool.not_false, Int.not_lt, Int.not_le, Decidable.not_not, ne_eq] at hb)
  · refine CALL.pure (rEmitFault_ok (by rfl) h3 hok3 hx3 (hz3 (hz hb)).1) ?_
    (repeat apply EX.in)
    refine NEED.mk rfl ?_
    exact ⟨by rw [hrest4, if_neg (by simpa using hb)], hO3.le⟩
  · exact ⟨by rw [hrest4, if_pos hb], hO3.le⟩
end Go.Proofs.YthaamalgeieijabDoor
