/- Contracts: patterns, rules (the program's side). No condition. -/
import Derived.Test.YthaamalgeieijabDoorCe
set_option linter.unusedVariables false
set_option linter.unusedSimpArgs false
namespace Go.Proofs.YthaamalgeieijabDoor
open Go

def takenV (l : List ByteArray) : Value → Option Value
  | .string s => if l.any (fun u => decide (u = s)) = true then some (.bool true) else none
  | _ => none
theorem Scope.other {M L L' : Mem} {p : Option Addr} {r : Nat} {tA : Option Addr} {types : List Typ} {tc : Nat} {env : Envs} (h : Scope M L p r tA types tc env) (hr : L' r = L r) : Scope M L' p r tA types tc env :=
  { h with known := by obtain ⟨es, h1, h2, h3⟩ := h.known; exact ⟨es, h1.congr (by simp [Mem.or, hr]), h2, h3⟩ }
theorem Scope.mono {M M' L : Mem} {p : Option Addr} {r : Nat} {tA : Option Addr} {types : List Typ} {tc : Nat} {env : Envs} (h : Scope M L p r tA types tc env) (hM : M.le M') (hr : M' r = M r) : Scope M' L p r tA types tc env :=
  { at_ := h.at_.mono hM, row := h.row.mono hM, ok := fun t ht => (h.ok t ht).mono hM, fine := h.fine, map := h.map.mono hM, from_ := h.from_
    known := by obtain ⟨es, h1, h2, h3⟩ := h.known; exact ⟨es, h1.congr (by simp [Mem.or, hr]), h2, h3⟩ }
/-- What the check of a pattern hands back, and what it leaves of the names that are taken. -/
def PatQ (types : List Typ) (env : Envs) (taken : List ByteArray) (kinds : List Int) (p : Pat) (tb : Nat) (L : Mem) (v : Value) (L' : Mem) : Prop :=
  (∃ n : ByteArray, ∃ A m c, v = .tuple #[.agg #[.string n, .slice A m c], .int .i64 (patF types env taken kinds p)] ∧
    (patF types env taken kinds p = 0 → (∃ t, typedF types p.type = some t ∧ t.toV = .agg #[.string n, .slice A m c]) ∧ MapF .string L' tb (takenV (taken ++ [p.var])))) ∧ ∀ i, i ≠ tb → L' i = L i
theorem sPattern_ok {q tA : Option Addr} {r tb : Nat} {types : List Typ} {tc : Nat} {env : Envs} {p : Pat} {taken : List ByteArray} {kA : Option Addr} {kn kc : Nat} {kinds : List Int} {M L : Mem} (hT : Tab M) (h : Scope M L q r tA types tc env) (hp : p.Ok M)
    (hkn : kn = kinds.length) (hk : Row M (Value.int .i64) 1 kA kc kinds) (ht : MapF .string L tb (takenV taken)) (hMtb : M tb = none) (hne : r ≠ tb) :
    PSpec Tryd.prog 35 #[.pointer q, p.toV, .map (some tb), .slice kA kn kc] M L (fun v M' L' => PatQ types env taken kinds p tb L v L' ∧ M' = M) := by
  refine PSpec.shrink (Q := fun v L' => PatQ types env taken kinds p tb L v L') ?_
  refine sPattern_spec ?_
  unfold vc_sPattern
  have e := patF.eq_1 types env taken kinds p
  have bad : ∀ (b : Int) n A m c L', patF types env taken kinds p = b → b ≠ 0 → (∀ i, i ≠ tb → L' i = L i) → PatQ types env taken kinds p tb L (.tuple #[.agg #[.string n, .slice A m c], .int .i64 b]) L' :=
    fun b n A m c L' h1 h2 h3 => ⟨⟨n, A, m, c, by rw [h1], fun h0 => absurd (h1.symm.trans h0) h2⟩, h3⟩
  refine CALL.pure (cName_ok hT) ?_
  (repeat apply EX.in)
  refine NEED.mk rfl ?_
  refine IFF.mk (fun hb => ?_) (fun hb => ?_) <;> (try simp only [decide_eq_true_eq, decide_eq_false_iff_not, Bool.and_eq_true, Bool.or_eq_true, Bool.not_eq_true', Bool.not_eq_false', Bool.and_eq_false_iff, Bool.or_eq_false_iff, Bool.not_true, Bool.not_false, Int.not_lt, Int.not_le, Decidable.not_not, ne_eq] at hb)
  · exact bad _ _ _ _ _ _ (by rw [e, if_pos hb]) hb (fun _ _ => rfl)
  rw [if_neg (by omega)] at e
  obtain ⟨es, h1, h2, h3⟩ := ht
  have hg := h3 (.string p.var) trivial
  simp only [takenV] at hg
  refine EX.in es ?_
  by_cases hin : taken.any (fun u => decide (u = p.var)) = true
  · rw [if_pos hin] at hg
    rw [if_pos hin] at e
    refine EX.in true (EX.in true (NEED.mk ⟨h1.up hMtb, h2, by rw [hg]; rfl, fun h => by cases h⟩ (IFF.t ?_)))
    exact bad _ _ _ _ _ _ e (by omega) (fun _ _ => rfl)
  rw [if_neg hin] at hg e
  refine EX.in false (EX.in false (NEED.mk ⟨h1.up hMtb, h2, by rw [hg]; rfl, fun _ => rfl⟩ (IFF.f ?_)))
  refine EX.in es (NEED.mk ⟨h1, by simp, h2⟩ ⟨fun L' hm hoth => ?_⟩)
  have hoth' : ∀ i, i ≠ tb → L' i = L i := fun i hi => hoth i (by simp [mapBlock]; omega)
  have hS : Scope M L' q r tA types tc env := h.other (hoth' r hne)
  have hnew : MapF .string L' tb (takenV (taken ++ [p.var])) := by
    refine ⟨_, hm, keys_mPut (d := .string) (k := .string p.var) trivial h2, fun k hkk => ?_⟩
    by_cases hkv : k = .string p.var
    · subst hkv; rw [mGet_mPut_self]; simp [takenV]
    · rw [mGet_mPut_ne _ _ hkv, h3 k hkk]
      cases k with
      | string s =>
        have : ¬ p.var = s := fun h => hkv (by rw [h])
        have e2 : (taken ++ [p.var]).any (fun u => decide (u = s)) = taken.any (fun u => decide (u = s)) := by rw [List.any_append]; simp [this]
        simp only [takenV]
        rw [e2]
      | _ => rfl
  refine CALL.pure (sTyped_ok (s := p.type) hS.at_.up hS.row) ?_
  cases htf : typedF types p.type with
  | none =>
    rw [typedV, htf]
    rw [htf] at e
    (repeat apply EX.in)
    refine NEED.mk rfl ?_
    exact IFF.yes' (by simp) (bad _ _ _ _ _ _ e (by omega) hoth')
  | some t =>
    rw [typedV, htf]
    rw [htf] at e
    dsimp only at e
    (repeat apply EX.in)
    refine NEED.mk rfl ?_
    refine IFF.no' (by simp) ?_
    refine CALL.pure (cWindow_ok (p := p) hkn hk) ?_
    (repeat apply EX.in)
    refine NEED.mk rfl ?_
    refine IFF.mk (fun hb => ?_) (fun hb => ?_) <;> (try simp only [decide_eq_true_eq, decide_eq_false_iff_not, Bool.and_eq_true, Bool.or_eq_true, Bool.not_eq_true', Bool.not_eq_false', Bool.and_eq_false_iff, Bool.or_eq_false_iff, Bool.not_true, Bool.not_false, Int.not_lt, Int.not_le, Decidable.not_not, ne_eq] at hb)
    · exact bad _ _ _ _ _ _ (by rw [e, if_pos hb]) hb hoth'
    rw [if_neg (by omega)] at e
    refine CALL.pure (cEmpty_ok (c := p.whr)) ?_
    (repeat apply EX.in)
    refine NEED.mk rfl ?_
    refine IFF.mk (fun hb => ?_) (fun hb => ?_) <;> (try simp only [decide_eq_true_eq, decide_eq_false_iff_not, Bool.and_eq_true, Bool.or_eq_true, Bool.not_eq_true', Bool.not_eq_false', Bool.and_eq_false_iff, Bool.or_eq_false_iff, Bool.not_true, Bool.not_false, Int.not_lt, Int.not_le, Decidable.not_not, ne_eq] at hb)
    · rw [if_pos hb] at e
      exact ⟨⟨_, _, _, _, by rw [e], fun _ => ⟨⟨t, htf, rfl⟩, hnew⟩⟩, hoth'⟩
    rw [if_neg hb] at e
    refine CALL.q (sCondition_ok (own := t) hS (typedF_mem htf) 8 p.whr 1 (by decide) (by omega) hp.whr) ?_
    rintro v ⟨n, rfl, hn⟩
    (repeat apply EX.in)
    refine NEED.mk rfl ?_
    exact ⟨⟨_, _, _, _, by rw [e], fun _ => ⟨⟨t, htf, rfl⟩, hnew⟩⟩, hoth'⟩
theorem Row.ints {M : Mem} {n : Nat} {xs : List Int} {t : TypeId} {f : Nat × Nat} (h : M n = some (.cells (xs.map (Value.int .i64)).toArray t f)) (hl : xs.length ≤ maxLen) : Row M (Value.int .i64) 1 (some ⟨n, 0, none⟩) xs.length xs :=
  ⟨Nat.le_refl _, hl, fun i hi => ⟨_, rfl, fun j u hu => by
    have hj : j = 0 := by
      have := (Array.getElem?_eq_some_iff.1 hu).1
      simp [Value.cells] at this; omega
    subst hj
    simp [Value.cells] at hu
    subst hu
    rw [own_add]
    simp [mcell, h, hi]⟩⟩
theorem patF_zero {types : List Typ} {env : Envs} {taken : List ByteArray} {kinds : List Int} {p : Pat} (h : patF types env taken kinds p = 0) : freeF p.var = 0 ∧ taken.any (fun u => decide (u = p.var)) = false ∧ ∃ t, typedF types p.type = some t ∧ windF kinds p = 0 ∧ (p.whr.Empty ∨ (condF env t 1 p.whr).2 = 0) := by
  unfold patF at h
  split at h
  · rename_i h1; exact absurd h h1
  rename_i h1
  split at h
  · cases h
  rename_i h2
  split at h
  · cases h
  rename_i t ht
  refine ⟨by omega, by simpa only [Bool.not_eq_true] using h2, t, ht, ?_⟩
  split at h
  · rename_i h3; exact absurd h h3
  rename_i h3
  split at h
  · rename_i h4; exact ⟨by omega, .inl h4⟩
  · exact ⟨by omega, .inr h⟩
theorem envF_snoc {types : List Typ} {pre : List Pat} {p : Pat} (hn : (pre.map (·.var)).any (fun u => decide (u = p.var)) = false) (s : ByteArray) : envF types (pre ++ [p]) s = if p.var = s then typedF types p.type else envF types pre s := by
  unfold envF
  rw [List.find?_append]
  by_cases hs : p.var = s
  · subst hs
    have : pre.find? (fun q => decide (q.var = p.var)) = none := by
      rw [List.find?_eq_none]
      intro q hq
      rw [List.any_map, List.any_eq_false] at hn
      simpa using hn q hq
    simp [this]
  · cases hf : pre.find? (fun q => decide (q.var = s)) <;> simp [hs]
theorem MapF.or {M L : Mem} {d : TypeDesc} {r : Nat} {f : Value → Option Value} (h : MapF d (Mem.or M L) r f) (hM : M r = none) : MapF d L r f := by
  obtain ⟨es, h1, h2, h3⟩ := h
  exact ⟨es, h1.congr (by simp [Mem.or, hM]), h2, h3⟩
theorem MapF.up {M L : Mem} {d : TypeDesc} {r : Nat} {f : Value → Option Value} (h : MapF d L r f) (hM : M r = none) : MapF d (Mem.or M L) r f := by
  obtain ⟨es, h1, h2, h3⟩ := h
  exact ⟨es, h1.up hM, h2, h3⟩
theorem MapF.there {L : Mem} {d : TypeDesc} {r : Nat} {f : Value → Option Value} (h : MapF d L r f) : L r ≠ none := by
  obtain ⟨es, h1, _⟩ := h
  rcases h1 with ⟨h1, _⟩ | ⟨q, arr, cl, h1, h2, _⟩
  · cases h1
  · injection h1 with h1; injection h1 with h1; subst h1; rw [h2]; simp
/-- What holds while a rule is checked: what is known, what is taken. -/
structure Going (L M' L' : Mem) (x : Rul) (g1 g2 g3 : Nat) (tA : Option Addr) (types : List Typ) (tc : Nat) (env : Envs) (taken : List ByteArray) : Prop where
  le : L.le L'
  scope : Scope M' L' (some ⟨g2, 0, none⟩) g1 tA types tc env
  taken : MapF .string L' g3 (takenV taken)
  m1 : M' g1 = none
  m3 : M' g3 = none
  n1 : L g1 = none
  n3 : L g3 = none
  tab : Tab M'
  ok : x.Ok M'
theorem Going.newM {L M' L' : Mem} {x : Rul} {g1 g2 g3 : Nat} {tA : Option Addr} {types : List Typ} {tc : Nat} {env : Envs} {taken : List ByteArray} (h : Going L M' L' x g1 g2 g3 tA types tc env taken) {g : Nat} (o : Obj) (hM : M' g = none) (hL : L' g = none) : Going L (M'.upd g o) L' x g1 g2 g3 tA types tc env taken := by
  have h1 : g1 ≠ g := fun e => by
    have := (h.scope.known.or h.m1).there
    rw [e] at this; exact this hL
  have h3 : g3 ≠ g := fun e => by have := h.taken.there; rw [e] at this; exact this hL
  exact ⟨h.le, h.scope.mono (Mem.upd_le hM) (Mem.upd_ne _ _ h1), h.taken, by rw [Mem.upd_ne _ _ h1]; exact h.m1, by rw [Mem.upd_ne _ _ h3]; exact h.m3, h.n1, h.n3, h.tab.mono (Mem.upd_le hM), h.ok.mono (Mem.upd_le hM)⟩
theorem Going.taking {L M' L' L'' : Mem} {x : Rul} {g1 g2 g3 : Nat} {tA : Option Addr} {types : List Typ} {tc : Nat} {env : Envs} {taken taken' : List ByteArray} (h : Going L M' L' x g1 g2 g3 tA types tc env taken) (ho : ∀ i, i ≠ g3 → L'' i = L' i) (h13 : g1 ≠ g3) (ht : MapF .string L'' g3 (takenV taken')) : Going L M' L'' x g1 g2 g3 tA types tc env taken' :=
  ⟨fun k o hk => by rw [ho k (fun e => by rw [e, h.n3] at hk; cases hk)]; exact h.le k o hk, h.scope.other (ho g1 h13), ht, h.m1, h.m3, h.n1, h.n3, h.tab, h.ok⟩
theorem cRule_ok {tA : Option Addr} {types : List Typ} {tc tn : Nat} {x : Rul} {M L : Mem} (htn : tn = types.length) (hT : Tab M) (h : Row M Typ.toV 2 tA tc types) (hok : ∀ t ∈ types, t.Ok M) (hfine : ∀ t ∈ types, typeF t = 0) (hx : x.Ok M) :
    Pure Tryd.prog 16 #[.slice tA tn tc, x.toV] M L (.int .i64 (ruleF types x)) := by
  subst htn
  refine Pure.of' (cRule_spec ?_)
  unfold vc_cRule
  have e := ruleF.eq_1 types x
  refine CALL.pure (cName_ok hT) ?_
  (repeat apply EX.in)
  refine NEED.mk rfl ?_
  refine IFF.mk (fun hb => ?_) (fun hb => ?_) <;> (try simp only [decide_eq_true_eq, decide_eq_false_iff_not, Bool.and_eq_true, Bool.or_eq_true, Bool.not_eq_true', Bool.not_eq_false', Bool.and_eq_false_iff, Bool.or_eq_false_iff, Bool.not_true, Bool.not_false, Int.not_lt, Int.not_le, Decidable.not_not, ne_eq] at hb)
  · exact ⟨by rw [e, if_pos hb], Mem.le_refl _⟩
  rw [if_neg (by omega)] at e
  refine IFF.mk (fun hb => ?_) (fun hb => ?_) <;> (try simp only [decide_eq_true_eq, decide_eq_false_iff_not, Bool.and_eq_true, Bool.or_eq_true, Bool.not_eq_true', Bool.not_eq_false', Bool.and_eq_false_iff, Bool.or_eq_false_iff, Bool.not_true, Bool.not_false, Int.not_lt, Int.not_le, Decidable.not_not, ne_eq] at hb)
  · exact ⟨by rw [e, if_pos (by omega)], Mem.le_refl _⟩
  rw [if_neg (by omega)] at e
  refine ⟨fun g1 hM1 hL1 => ⟨fun g2 hM2 hL2 => ⟨fun g3 hM3 hL3 => ?_⟩⟩⟩
  obtain ⟨n21, hL2'⟩ := Mem.upd_none hL2
  obtain ⟨n32, hL3'⟩ := Mem.upd_none hL3
  obtain ⟨n31, hL3''⟩ := Mem.upd_none hL3'
  have hpub := PUB.one (M := M) (L := ((L.upd g1 (.map #[] 0)).upd g2 (.cells #[.slice tA types.length tc, .map (some g1)] 96)).upd g3 (.map #[] 0)) (g := g2) hM2 (by rw [Mem.upd_ne _ _ (Ne.symm n32), Mem.upd_self])
  have hle0 := Mem.upd_le (o := .cells #[.slice tA types.length tc, .map (some g1)] 96) hM2
  have hG0 : Going L (M.upd g2 (.cells #[.slice tA types.length tc, .map (some g1)] 96)) ((((L.upd g1 (.map #[] 0)).upd g2 (.cells #[.slice tA types.length tc, .map (some g1)] 96)).upd g3 (.map #[] 0)).del g2) x g1 g2 g3 tA types tc (envF types []) [] := by
    have hcell : ∀ i u, #[Value.slice tA types.length tc, .map (some g1)][i]? = some u → mcell (M.upd g2 (.cells #[.slice tA types.length tc, .map (some g1)] 96)) ⟨g2, i, none⟩ = some u := fun i u hu => by
      simp only [mcell, Mem.upd_self]; exact hu
    refine ⟨fun k o hk => ?_, { at_ := ⟨_, rfl, fun j u hu => ?_⟩, row := h.mono hle0, ok := fun t ht => (hok t ht).mono hle0, fine := hfine, map := ⟨_, rfl, fun j u hu => ?_⟩, known := ⟨[], ?_, (by intro e he; cases he), fun k hk => ?_⟩, from_ := fun s t hs => by cases hs }, ⟨[], ?_, (by intro e he; cases he), fun k hk => ?_⟩, ?_, ?_, hL1, hL3'', hT.mono hle0, hx.mono hle0⟩
    · have k2 : k ≠ g2 := fun e => by rw [e, hL2'] at hk; cases hk
      have k1 : k ≠ g1 := fun e => by rw [e, hL1] at hk; cases hk
      have k3 : k ≠ g3 := fun e => by rw [e, hL3''] at hk; cases hk
      simp only [Mem.del, if_neg k2, Mem.upd_ne _ _ k3, Mem.upd_ne _ _ k2, Mem.upd_ne _ _ k1]; exact hk
    · have hj : j = 0 := by
        have := (Array.getElem?_eq_some_iff.1 hu).1
        simp [Value.cells] at this; omega
      subst hj; rw [own_add]; exact hcell _ _ hu
    · have hj : j = 0 := by
        have := (Array.getElem?_eq_some_iff.1 hu).1
        simp [Value.cells] at this; omega
      subst hj; rw [own_add]
      refine hcell _ _ ?_
      simp [Value.cells] at hu; subst hu; rfl
    · refine MapAt.up (MapAt.new.congr (L := L.upd g1 (.map #[] 0)) ?_) (by rw [Mem.upd_ne _ _ (Ne.symm n21)]; exact hM1)
      simp only [Mem.del, if_neg (Ne.symm n21), Mem.upd_ne _ _ (Ne.symm n31), Mem.upd_ne _ _ (Ne.symm n21)]
    · cases k with
      | string s => rfl
      | _ => rfl
    · refine MapAt.new.congr (L := ((L.upd g1 (.map #[] 0)).upd g2 (.cells #[.slice tA types.length tc, .map (some g1)] 96)).upd g3 (.map #[] 0)) ?_
      simp only [Mem.del, if_neg n32]
    · cases k with
      | string s => rfl
      | _ => rfl
    · rw [Mem.upd_ne _ _ (Ne.symm n21)]; exact hM1
    · rw [Mem.upd_ne _ _ n32]; exact hM3
  refine LOOP.toM hpub x.whens.length (fun j M' L' => Going L M' L' x g1 g2 g3 tA types tc (envF types (x.whens.take j)) ((x.whens.take j).map (·.var)) ∧ whensF types [] x.whens = whensF types (x.whens.take j) (x.whens.drop j)) ⟨by simpa using hG0, rfl⟩ ?_
  intro j M1 L1 again hM1le hj ⟨hG, hI⟩ hag
  have hlen := hx.whens.len
  (repeat apply EX.in)
  refine NEED.mk ⟨rfl, rfl⟩ ?_
  refine IFF.mk (fun hb => ?_) (fun hb => ?_) <;> (try simp only [decide_eq_true_eq, decide_eq_false_iff_not, Bool.and_eq_true, Bool.or_eq_true, Bool.not_eq_true', Bool.not_eq_false', Bool.and_eq_false_iff, Bool.or_eq_false_iff, Bool.not_true, Bool.not_false, Int.not_lt, Int.not_le, Decidable.not_not, ne_eq] at hb)
  · have hlt : j < x.whens.length := by simpa using hb
    have hr := (hG.ok.whens).cell j hlt
    have hd := drop_step hlt
    refine NEED.mk ⟨hr.ne, by omega, by omega⟩ ?_
    (repeat apply EX.in)
    refine NEED.mk (by first | exact hr.up | exact hr) ?_
    refine ⟨fun g hMg hLg => ?_⟩
    have hG' := hG.newM (.cells #[.int .i64 0, .int .i64 1, .int .i64 2] 3) hMg hLg
    have hkr : Row (M1.upd g (.cells #[.int .i64 0, .int .i64 1, .int .i64 2] 3)) (Value.int .i64) 1 (some ⟨g, 0, none⟩) 3 [0, 1, 2] := Row.ints (n := g) (xs := [0, 1, 2]) (t := 3) (f := (0, 0)) (Mem.upd_self _ _ _) (by decide)
    refine CALL.post (sPattern_ok (p := x.whens[j]) hG'.tab hG'.scope (hG'.ok.when _ (List.getElem_mem hlt)) (by rfl) hkr hG'.taken hG'.m3 (Ne.symm n31)) ?_
    rintro v M2 L2 - ⟨⟨⟨n, A, m, c, rfl, hgood⟩, hoth⟩, rfl⟩
    rw [hd, whensF] at hI
    (repeat apply EX.in)
    refine NEED.mk rfl ?_
    have hle2 : L.le L2 := fun k o hk => by rw [hoth k (fun e => by rw [e, hL3''] at hk; cases hk)]; exact hG.le k o hk
    refine IFF.mk (fun hb => ?_) (fun hb => ?_) <;> (try simp only [decide_eq_true_eq, decide_eq_false_iff_not, Bool.and_eq_true, Bool.or_eq_true, Bool.not_eq_true', Bool.not_eq_false', Bool.and_eq_false_iff, Bool.or_eq_false_iff, Bool.not_true, Bool.not_false, Int.not_lt, Int.not_le, Decidable.not_not, ne_eq] at hb)
    · refine ⟨?_, hle2⟩
      rw [if_pos hb] at hI
      rw [e, hI, if_pos hb]
    rw [if_neg (by omega)] at hI
    obtain ⟨⟨t, ht, htv⟩, htk⟩ := hgood hb
    obtain ⟨_, hnt, _⟩ := patF_zero hb
    have hG2 := hG'.taking hoth (Ne.symm n31) htk
    refine NEED.mk (by simp) (EX.in _ (NEED.mk hG2.scope.map ?_))
    obtain ⟨es, q1, q2, q3⟩ := hG2.scope.known.or hG2.m1
    refine EX.in es (NEED.mk ⟨q1, by simp, q2⟩ ⟨fun L3 hm3 hoth3 => ?_⟩)
    have hoth3' : ∀ i, i ≠ g1 → L3 i = L2 i := fun i hi => hoth3 i (by simp [mapBlock]; omega)
    refine NEED.mk (by unfold inI64; omega) ?_
    refine NEED.mk ⟨rfl, rfl⟩ ?_
    refine hag _ _ hlt ⟨⟨fun k o hk => ?_, { hG2.scope with known := ?_, from_ := fun s t' hs => ?_ }, ?_, hG2.m1, hG2.m3, hL1, hL3'', hG2.tab, hG2.ok⟩, ?_⟩
    · rw [hoth3' k (fun e => by rw [e, hL1] at hk; cases hk)]; exact hG2.le k o hk
    · refine MapF.up ⟨_, hm3, keys_mPut (d := .string) (k := .string x.whens[j].var) trivial q2, fun k hkk => ?_⟩ hG2.m1
      rw [take_step hlt]
      by_cases hkv : k = .string x.whens[j].var
      · subst hkv; rw [mGet_mPut_self]; simp only [envV]; rw [envF_snoc hnt, if_pos rfl, ht, ← htv]; rfl
      · rw [mGet_mPut_ne _ _ hkv, q3 k hkk]
        cases k with
        | string s =>
          have : ¬ x.whens[j].var = s := fun h => hkv (by rw [h])
          simp only [envV]; rw [envF_snoc hnt, if_neg this]
        | _ => rfl
    · rw [take_step hlt, envF_snoc hnt] at hs
      split at hs
      · exact typedF_mem hs
      · exact hG2.scope.from_ _ _ hs
    · obtain ⟨es', w1, w2, w3⟩ := hG2.taken
      refine ⟨es', w1.congr (hoth3' g3 n31), w2, fun k hk => ?_⟩
      rw [w3 k hk, take_step hlt, List.map_append]
      rfl
    · rw [hI, take_step hlt]
  have hdone := drop_end (j := j) (l := x.whens) (by omega)
  rw [List.take_of_length_le (by omega)] at hG
  rw [hdone] at hI
  have hw0 : whensF types [] x.whens = 0 := hI
  rw [if_neg (by omega)] at e
  clear hag hI hdone
  refine LOOP.toM (.refl _ _) x.nots.length (fun j M' L' => Going L M' L' x g1 g2 g3 tA types tc (envF types x.whens) (x.whens.map (·.var) ++ (x.nots.take j).map (·.var)) ∧ notsF types (envF types x.whens) (x.whens.map (·.var)) x.nots = notsF types (envF types x.whens) (x.whens.map (·.var) ++ (x.nots.take j).map (·.var)) (x.nots.drop j)) ⟨by simpa using hG, by simp⟩ ?_
  intro j M1 L1 again hM1le hj ⟨hG, hI⟩ hag
  have hlen := hx.nots.len
  (repeat apply EX.in)
  refine NEED.mk ⟨rfl, rfl⟩ ?_
  refine IFF.mk (fun hb => ?_) (fun hb => ?_) <;> (try simp only [decide_eq_true_eq, decide_eq_false_iff_not, Bool.and_eq_true, Bool.or_eq_true, Bool.not_eq_true', Bool.not_eq_false', Bool.and_eq_false_iff, Bool.or_eq_false_iff, Bool.not_true, Bool.not_false, Int.not_lt, Int.not_le, Decidable.not_not, ne_eq] at hb)
  · have hlt : j < x.nots.length := by simpa using hb
    have hr := (hG.ok.nots).cell j hlt
    have hd := drop_step hlt
    refine NEED.mk ⟨hr.ne, by omega, by omega⟩ ?_
    (repeat apply EX.in)
    refine NEED.mk (by first | exact hr.up | exact hr) ?_
    refine ⟨fun g hMg hLg => ?_⟩
    have hG' := hG.newM (.cells #[.int .i64 0] 3) hMg hLg
    have hkr : Row (M1.upd g (.cells #[.int .i64 0] 3)) (Value.int .i64) 1 (some ⟨g, 0, none⟩) 1 [0] := Row.ints (n := g) (xs := [0]) (t := 3) (f := (0, 0)) (Mem.upd_self _ _ _) (by decide)
    refine CALL.post (sPattern_ok (p := x.nots[j]) hG'.tab hG'.scope (hG'.ok.not _ (List.getElem_mem hlt)) (by rfl) hkr hG'.taken hG'.m3 (Ne.symm n31)) ?_
    rintro v M2 L2 - ⟨⟨⟨n, A, m, c, rfl, hgood⟩, hoth⟩, rfl⟩
    rw [hd, notsF] at hI
    (repeat apply EX.in)
    refine NEED.mk rfl ?_
    have hle2 : L.le L2 := fun k o hk => by rw [hoth k (fun e => by rw [e, hL3''] at hk; cases hk)]; exact hG.le k o hk
    refine IFF.mk (fun hb => ?_) (fun hb => ?_) <;> (try simp only [decide_eq_true_eq, decide_eq_false_iff_not, Bool.and_eq_true, Bool.or_eq_true, Bool.not_eq_true', Bool.not_eq_false', Bool.and_eq_false_iff, Bool.or_eq_false_iff, Bool.not_true, Bool.not_false, Int.not_lt, Int.not_le, Decidable.not_not, ne_eq] at hb)
    · refine ⟨?_, hle2⟩
      rw [if_pos hb] at hI
      rw [e, hI, if_pos hb]
    rw [if_neg (by omega)] at hI
    obtain ⟨_, htk⟩ := hgood hb
    have hG2 := hG'.taking hoth (Ne.symm n31) htk
    have hsn : x.whens.map (·.var) ++ (x.nots.take (j + 1)).map (·.var) = x.whens.map (·.var) ++ (x.nots.take j).map (·.var) ++ [x.nots[j].var] := by rw [take_step hlt, List.map_append, ← List.append_assoc]; rfl
    refine NEED.mk (by unfold inI64; omega) ?_
    refine NEED.mk ⟨rfl, rfl⟩ ?_
    refine hag _ _ hlt ⟨?_, ?_⟩
    · rw [hsn]; exact hG2
    · rw [hsn]; exact hI
  have hdone := drop_end (j := j) (l := x.nots) (by omega)
  rw [List.take_of_length_le (by omega)] at hG
  rw [hdone] at hI
  have hw1 : notsF types (envF types x.whens) (x.whens.map (·.var)) x.nots = 0 := hI
  rw [if_neg (by omega)] at e
  clear hag hI hdone
  refine LOOP.toM (.refl _ _) x.manies.length (fun j M' L' => Going L M' L' x g1 g2 g3 tA types tc (envF types x.whens) (x.whens.map (·.var) ++ x.nots.map (·.var) ++ (x.manies.take j).map (·.pat.var)) ∧ maniesF types (envF types x.whens) (x.whens.map (·.var) ++ x.nots.map (·.var)) x.manies = maniesF types (envF types x.whens) (x.whens.map (·.var) ++ x.nots.map (·.var) ++ (x.manies.take j).map (·.pat.var)) (x.manies.drop j)) ⟨by simpa using hG, by simp⟩ ?_
  intro j M1 L1 again hM1le hj ⟨hG, hI⟩ hag
  have hlen := hx.manies.len
  (repeat apply EX.in)
  refine NEED.mk ⟨rfl, rfl⟩ ?_
  refine IFF.mk (fun hb => ?_) (fun hb => ?_) <;> (try simp only [decide_eq_true_eq, decide_eq_false_iff_not, Bool.and_eq_true, Bool.or_eq_true, Bool.not_eq_true', Bool.not_eq_false', Bool.and_eq_false_iff, Bool.or_eq_false_iff, Bool.not_true, Bool.not_false, Int.not_lt, Int.not_le, Decidable.not_not, ne_eq] at hb)
  · have hlt : j < x.manies.length := by simpa using hb
    have hr := (hG.ok.manies).cell j hlt
    have hd := drop_step hlt
    refine NEED.mk ⟨hr.ne, by omega, by omega⟩ ?_
    (repeat apply EX.in)
    refine NEED.mk (by first | exact hr.up | exact hr) ?_
    rw [hd, maniesF] at hI
    have em := manyF.eq_1 types (envF types x.whens) (x.whens.map (·.var) ++ x.nots.map (·.var) ++ (x.manies.take j).map (·.pat.var)) x.manies[j]
    refine IFF.mk (fun hb => ?_) (fun hb => ?_) <;> (try simp only [decide_eq_true_eq, decide_eq_false_iff_not, Bool.and_eq_true, Bool.or_eq_true, Bool.not_eq_true', Bool.not_eq_false', Bool.and_eq_false_iff, Bool.or_eq_false_iff, Bool.not_true, Bool.not_false, Int.not_lt, Int.not_le, Decidable.not_not, ne_eq] at hb)
    · rw [if_pos (by grind)] at em
      rw [em, if_pos (by omega)] at hI
      exact ⟨by rw [e, hI, if_pos (by omega)], hG.le⟩
    rw [if_neg (by grind)] at em
    refine ⟨fun g hMg hLg => ?_⟩
    have hG' := hG.newM (.cells #[.int .i64 1] 3) hMg hLg
    have hkr : Row (M1.upd g (.cells #[.int .i64 1] 3)) (Value.int .i64) 1 (some ⟨g, 0, none⟩) 1 [1] := Row.ints (n := g) (xs := [1]) (t := 3) (f := (0, 0)) (Mem.upd_self _ _ _) (by decide)
    refine CALL.post (sPattern_ok (p := x.manies[j].pat) hG'.tab hG'.scope (hG'.ok.many _ (List.getElem_mem hlt)) (by rfl) hkr hG'.taken hG'.m3 (Ne.symm n31)) ?_
    rintro v M2 L2 - ⟨⟨⟨n, A, m, c, rfl, hgood⟩, hoth⟩, rfl⟩
    (repeat apply EX.in)
    refine NEED.mk rfl ?_
    have hle2 : L.le L2 := fun k o hk => by rw [hoth k (fun e => by rw [e, hL3''] at hk; cases hk)]; exact hG.le k o hk
    refine IFF.mk (fun hb => ?_) (fun hb => ?_) <;> (try simp only [decide_eq_true_eq, decide_eq_false_iff_not, Bool.and_eq_true, Bool.or_eq_true, Bool.not_eq_true', Bool.not_eq_false', Bool.and_eq_false_iff, Bool.or_eq_false_iff, Bool.not_true, Bool.not_false, Int.not_lt, Int.not_le, Decidable.not_not, ne_eq] at hb)
    · rw [if_pos hb] at em
      rw [em, if_pos hb] at hI
      exact ⟨by rw [e, hI, if_pos hb], hle2⟩
    rw [if_neg (by omega)] at em
    obtain ⟨⟨t, ht, htv⟩, htk⟩ := hgood hb
    have hG2 := hG'.taking hoth (Ne.symm n31) htk
    have htm := typedF_mem ht
    rw [← htv]
    rw [ht] at em
    dsimp only at em
    refine CALL.pure (cSummed_ok (t := t) (hG2.scope.ok t htm) (hfine t htm)) ?_
    (repeat apply EX.in)
    refine NEED.mk rfl ?_
    rw [em] at hI
    refine IFF.mk (fun hb => ?_) (fun hb => ?_) <;> (try simp only [decide_eq_true_eq, decide_eq_false_iff_not, Bool.and_eq_true, Bool.or_eq_true, Bool.not_eq_true', Bool.not_eq_false', Bool.and_eq_false_iff, Bool.or_eq_false_iff, Bool.not_true, Bool.not_false, Int.not_lt, Int.not_le, Decidable.not_not, ne_eq] at hb)
    · rw [if_pos hb] at hI
      exact ⟨by rw [e, hI, if_pos hb], hle2⟩
    rw [if_neg (by omega)] at hI
    have hsn : x.whens.map (·.var) ++ x.nots.map (·.var) ++ (x.manies.take (j + 1)).map (·.pat.var) = x.whens.map (·.var) ++ x.nots.map (·.var) ++ (x.manies.take j).map (·.pat.var) ++ [x.manies[j].pat.var] := by rw [take_step hlt, List.map_append, ← List.append_assoc]; rfl
    refine NEED.mk (by unfold inI64; omega) ?_
    refine NEED.mk ⟨rfl, rfl⟩ ?_
    refine hag _ _ hlt ⟨?_, ?_⟩
    · rw [hsn]; exact hG2
    · rw [hsn]; exact hI
  have hdone := drop_end (j := j) (l := x.manies) (by omega)
  rw [hdone] at hI
  have hw2 : maniesF types (envF types x.whens) (x.whens.map (·.var) ++ x.nots.map (·.var)) x.manies = 0 := hI
  rw [if_neg (by omega)] at e
  clear hag hI hdone
  have hlen := hx.links.len
  refine LOOP.to x.links.length (fun j => linksF x x.links = linksF x (x.links.drop j)) (by simp) ?_
  intro j again hj hI hag
  (repeat apply EX.in)
  refine NEED.mk ⟨rfl, rfl⟩ ?_
  refine IFF.mk (fun hb => ?_) (fun hb => ?_) <;> (try simp only [decide_eq_true_eq, decide_eq_false_iff_not, Bool.and_eq_true, Bool.or_eq_true, Bool.not_eq_true', Bool.not_eq_false', Bool.and_eq_false_iff, Bool.or_eq_false_iff, Bool.not_true, Bool.not_false, Int.not_lt, Int.not_le, Decidable.not_not, ne_eq] at hb)
  · have hlt : j < x.links.length := by simpa using hb
    have hr := (hG.ok.links).cell j hlt
    have hd := drop_step hlt
    refine NEED.mk ⟨hr.ne, by omega, by omega⟩ ?_
    (repeat apply EX.in)
    refine NEED.mk (by first | exact hr.up | exact hr) ?_
    rw [hd, linksF] at hI
    refine CALL.pure (cLink_ok (k := x.links[j]) hG.ok (hG.ok.link _ (List.getElem_mem hlt))) ?_
    (repeat apply EX.in)
    refine NEED.mk rfl ?_
    refine IFF.mk (fun hb => ?_) (fun hb => ?_) <;> (try simp only [decide_eq_true_eq, decide_eq_false_iff_not, Bool.and_eq_true, Bool.or_eq_true, Bool.not_eq_true', Bool.not_eq_false', Bool.and_eq_false_iff, Bool.or_eq_false_iff, Bool.not_true, Bool.not_false, Int.not_lt, Int.not_le, Decidable.not_not, ne_eq] at hb)
    · rw [if_pos hb] at hI
      exact ⟨by rw [e, hI, if_pos hb], hG.le⟩
    rw [if_neg (by omega)] at hI
    refine NEED.mk (by unfold inI64; omega) ?_
    refine NEED.mk ⟨rfl, rfl⟩ ?_
    exact hag hlt hI
  have hdone := drop_end (j := j) (l := x.links) (by omega)
  rw [hdone] at hI
  have hw3 : linksF x x.links = 0 := hI
  rw [if_neg (by omega)] at e
  refine CALL.pure (sEmit_ok hG.scope hG.ok) ?_
  (repeat apply EX.in)
  refine NEED.mk rfl ?_
  exact ⟨by rw [e], hG.le⟩
end Go.Proofs.YthaamalgeieijabDoor
