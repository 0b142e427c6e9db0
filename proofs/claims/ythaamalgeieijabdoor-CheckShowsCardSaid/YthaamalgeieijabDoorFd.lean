/- What a book that may be is like: its names, its sides; how long its showing is. Plain Lean; no condition. -/
import Derived.Test.YthaamalgeieijabDoorFc
import Derived.Test.YthaamalgeieijabDoorCj
set_option linter.unusedVariables false
set_option linter.unusedSimpArgs false
namespace Go.Proofs.YthaamalgeieijabDoor
open Go

/-- What may be known of a scope. -/
structure MayKnow (types : List Typ) (env : Envs) : Prop where
  fine : ∀ t ∈ types, typeF t = 0
  from_ : ∀ s t, env s = some t → t ∈ types ∧ nameF s = 0
theorem fldsF_zero : ∀ {l pre : List Fld}, fldsF pre l = 0 → ∀ f ∈ l, nameF f.name = 0 ∧ (f.kind = 1 ∨ f.kind = 2)
  | f :: l, pre, h, g, hg => by
    rw [fldsF] at h
    split at h
    · rename_i h1; exact absurd h h1
    rename_i h1
    split at h
    · cases h
    rename_i h2
    split at h
    · cases h
    rcases List.mem_cons.1 hg with rfl | hg
    · exact ⟨by omega, by omega⟩
    · exact fldsF_zero h g hg
theorem typeF_zero {t : Typ} (h : typeF t = 0) : nameF t.name = 0 ∧ t.fields.length ≤ 4 ∧ ∀ f ∈ t.fields, nameF f.name = 0 ∧ (f.kind = 1 ∨ f.kind = 2) := by
  unfold typeF at h
  split at h
  · rename_i h1; exact absurd h h1
  rename_i h1
  split at h
  · cases h
  rename_i h2
  exact ⟨by omega, by omega, fldsF_zero h⟩
theorem fieldsAt_zero {s : ByteArray} : ∀ {l : List Fld} {j : Nat}, (fieldsAt j l s).2.2 = 0 → ∃ f ∈ l, f.name = s
  | [], j, h => by simp [fieldsAt] at h
  | f :: l, j, h => by
    rw [fieldsAt] at h
    split at h
    · rename_i h1; exact ⟨f, by simp, h1⟩
    · obtain ⟨g, hg, h2⟩ := fieldsAt_zero h
      exact ⟨g, List.mem_cons_of_mem _ hg, h2⟩
theorem sideF_fine {types : List Typ} {env : Envs} {own : Typ} {o : Opd} (hg : MayKnow types env) (ho : own ∈ types) (h : (sideF env own o).2 = 0) : o.Fine := by
  unfold sideF at h
  split at h
  · cases h
  rename_i h1
  split at h
  · cases h
  rename_i h2
  split at h
  · cases h
  split at h
  · rename_i h4; exact .inl ⟨h4, h⟩
  rename_i h4
  split at h
  · rename_i h5
    cases he : env o.var with
    | none => exact absurd ⟨h5, he⟩ h2
    | some t =>
      rw [he] at h
      obtain ⟨f, hf, hn⟩ := fieldsAt_zero (s := o.field) (l := t.fields) (j := 0) h
      obtain ⟨ht, hv⟩ := hg.from_ _ _ he
      exact .inr (.inr ⟨h5, hv, by rw [← hn]; exact ((typeF_zero (hg.fine t ht)).2.2 f hf).1⟩)
  · rename_i h5
    obtain ⟨f, hf, hn⟩ := fieldsAt_zero (s := o.field) (l := own.fields) (j := 0) h
    exact .inr (.inl ⟨by omega, by rw [← hn]; exact ((typeF_zero (hg.fine own ho)).2.2 f hf).1⟩)
theorem numT_le (n : Int) : (numT n).length ≤ 2 := by unfold numT; split <;> simp
theorem sideT_le (o : Opd) : (sideT o).length ≤ 3 := by
  unfold sideT
  have := numT_le o.v.int
  repeat' split
  all_goals first | omega | simp
theorem brT_le (b : Bool) (l : List Tok) : (brT b l).length ≤ l.length + 2 := by unfold brT; split <;> simp
mutual
theorem condF_fine {types : List Typ} {env : Envs} {own : Typ} (hg : MayKnow types env) (ho : own ∈ types) (depth : Int) : ∀ c : Cnd, (condF env own depth c).2 = 0 → c.Fine ∧ 1 ≤ (condF env own depth c).1 ∧ depth ≤ 8 ∧ ((condT c).length : Int) ≤ (condF env own depth c).1 * (7 + 3 * (9 - depth))
  | .mk kind sA subs sc l r, h => by
    have e : condT (.mk kind sA subs sc l r) = if kind = 3 then word (ByteArray.mk #[110, 111, 116]) :: (match (generalizing := false) subs with
      | [] => []
      | x :: _ => brT (decide (x.kind ≤ 2)) (condT x)) else
    if kind = 1 ∨ kind = 2 then subsT kind true subs else sideT l ++ [word (cmpW kind)] ++ sideT r := condT_eq (.mk kind sA subs sc l r)
    rw [condF] at h ⊢
    split at h
    · cases h
    rename_i h1
    rw [if_neg h1]
    split at h
    · cases h
    rename_i h2
    rw [if_neg h2]
    split at h
    · rename_i h3
      split at h
      · cases h
      split at h
      · rename_i h5; exact absurd h h5
      rename_i h4 h5
      rw [if_pos h3, if_neg h4, if_neg h5]
      have ht : testF env own l r = 0 := by omega
      unfold testF at ht
      split at ht
      · rename_i h6; exact absurd ht h6
      rename_i h6
      split at ht
      · rename_i h7; exact absurd ht h7
      rename_i h7
      refine ⟨.cmp h3 (by simp only [Cnd.kind]; omega) (show l.Fine from sideF_fine hg ho (by omega)) (show r.Fine from sideF_fine hg ho (by omega)), by simp, by omega, ?_⟩
      rw [e, if_neg (by omega), if_neg (by omega)]
      have q1 := sideT_le l
      have q2 := sideT_le r
      simp only [List.length_append, List.length_cons, List.length_nil]
      omega
    · rename_i h3
      split at h
      · cases h
      rename_i h4
      rw [if_neg h3, if_neg h4]
      have hsub := condsF_fine hg ho (depth + 1) kind 0 subs h
      obtain ⟨k1, k2, k3, k4⟩ := hsub
      by_cases hk3 : kind = 3
      · have hlen : subs.length = 1 := by omega
        match subs, hlen with
        | [x], _ =>
          have hx := k1 x (by simp)
          refine ⟨.not hk3 rfl hx, ?_, ?_, ?_⟩
          · have := k3 (by simp); omega
          · omega
          · rw [e, if_pos hk3]
            have hb := brT_le (decide (x.kind ≤ 2)) (condT x)
            have h0 := k3 (by simp)
            have hc : (condT x).length ≤ (condsF env own (depth + 1) 0 [x]).1 * (7 + 3 * (9 - (depth + 1))) := by have := k2 x (by simp); rwa [Int.sub_zero] at this
            simp only [List.length_cons]
            generalize (condsF env own (depth + 1) 0 [x]).1 = m at hc h0 ⊢
            have : m * (7 + 3 * (9 - depth)) = m * (7 + 3 * (9 - (depth + 1))) + 3 * m := by
              rw [show 7 + 3 * (9 - depth) = 7 + 3 * (9 - (depth + 1)) + 3 by omega, Int.mul_add, Int.mul_comm 3 m]
            rw [this]
            simp only [List.length_cons, List.length_nil] at h0
            push_cast
            omega
      · have hk12 : kind = 1 ∨ kind = 2 := by omega
        have hlen : 2 ≤ subs.length := by omega
        refine ⟨.many hk12 k1, ?_, by omega, ?_⟩
        · have := k3 (by omega); omega
        · rw [e, if_neg hk3, if_pos hk12]
          have h0 := k3 (by omega)
          have k4 := k4 true
          rw [Int.sub_zero] at k4
          generalize (condsF env own (depth + 1) 0 subs).1 = m at k4 h0 ⊢
          have : m * (7 + 3 * (9 - depth)) = m * (7 + 3 * (9 - (depth + 1))) + 3 * m := by
            rw [show 7 + 3 * (9 - depth) = 7 + 3 * (9 - (depth + 1)) + 3 by omega, Int.mul_add, Int.mul_comm 3 m]
          rw [this]
          omega
theorem condsF_fine {types : List Typ} {env : Envs} {own : Typ} (hg : MayKnow types env) (ho : own ∈ types) (depth kind : Int) (n : Int) : ∀ l : List Cnd, (condsF env own depth n l).2 = 0 → (∀ x ∈ l, x.Fine) ∧
    (∀ x ∈ l, ((condT x).length : Int) ≤ ((condsF env own depth n l).1 - n) * (7 + 3 * (9 - depth))) ∧ (0 ≤ l.length → n + l.length ≤ (condsF env own depth n l).1 ∧ (1 ≤ l.length → depth ≤ 8)) ∧
    ∀ first : Bool, ((subsT kind first l).length : Int) ≤ ((condsF env own depth n l).1 - n) * (7 + 3 * (9 - depth)) + 3 * l.length
  | [], h => by
    refine ⟨by simp, by simp, fun _ => ⟨by simp [condsF], by simp⟩, fun first => by simp [condsF, subsT]⟩
  | c :: l, h => by
    rw [condsF_cons] at h ⊢
    split at h
    · rename_i h1; exact absurd h h1
    rename_i h1
    split at h
    · cases h
    rename_i h2
    rw [if_neg h1, if_neg h2]
    obtain ⟨a1, a2, a3, a4⟩ := condF_fine hg ho depth c (by omega)
    obtain ⟨b1, b2, b3, b4⟩ := condsF_fine hg ho depth kind (n + (condF env own depth c).1) l h
    have b3' := (b3 (Nat.zero_le _)).1
    have hb := brT_le (decide (c.kind = kind ∨ c.kind = 2)) (condT c)
    generalize (condF env own depth c).1 = m at a2 a4 b2 b3' b4 ⊢
    generalize (condsF env own depth (n + m) l).1 = r at b2 b3' b4 ⊢
    have hmul : (r - n) * (7 + 3 * (9 - depth)) = (r - (n + m)) * (7 + 3 * (9 - depth)) + m * (7 + 3 * (9 - depth)) := by
      rw [← Int.add_mul]; congr 1; omega
    have hpos : 0 ≤ (r - (n + m)) * (7 + 3 * (9 - depth)) := Int.mul_nonneg (by omega) (by omega)
    have hpos2 : 0 ≤ m * (7 + 3 * (9 - depth)) := Int.mul_nonneg (by omega) (by omega)
    refine ⟨fun x hx => ?_, fun x hx => ?_, fun _ => ⟨by simp only [List.length_cons]; omega, fun _ => a3⟩, fun first => ?_⟩
    · rcases List.mem_cons.1 hx with rfl | hx
      · exact a1
      · exact b1 x hx
    · rw [hmul]
      rcases List.mem_cons.1 hx with rfl | hx
      · omega
      · have := b2 x hx; omega
    · rw [subsT, hmul]
      have := b4 false
      simp only [List.length_append, List.length_cons]
      split <;> simp only [List.length_cons, List.length_nil] <;> omega
end
theorem patF_fine {types : List Typ} {env : Envs} {taken : List ByteArray} {kinds : List Int} {p : Pat} (hg : MayKnow types env) (hk : ∀ k ∈ kinds, k = 0 ∨ k = 1 ∨ k = 2) (h : patF types env taken kinds p = 0) : p.Fine ∧ (patT p).length ≤ 400 := by
  obtain ⟨h1, _, t, ht, hw, hc⟩ := patF_zero h
  have htm := typedF_mem ht
  have htn : nameF p.type = 0 := by
    have h2 := List.find?_some ht
    rw [← of_decide_eq_true h2]
    exact (typeF_zero (hg.fine t htm)).1
  have hwin : p.window ∈ kinds ∧ (p.window = 0 → p.n = 0) ∧ (p.window = 1 → 0 ≤ p.n) ∧ (p.window = 2 → 1 ≤ p.n) := by
    unfold windF at hw
    split at hw
    · cases hw
    rename_i q1
    split at hw
    · cases hw
    rename_i q2
    refine ⟨Classical.byContradiction fun hn => q1 (.inl hn), fun h0 => Classical.byContradiction fun hn => q1 (.inr ⟨h0, hn⟩), fun h0 => ?_, fun h0 => ?_⟩ <;> omega
  have hw3 := hk _ hwin.1
  have hn0 : 0 ≤ p.n := by have := hwin.2; omega
  by_cases hk0 : p.whr.kind = 0
  · refine ⟨⟨freeF_name h1, htn, .inl hk0, hn0, hw3⟩, ?_⟩
    rw [patT, if_neg (by omega)]; simp
  · have hcf : (condF env t 1 p.whr).2 = 0 := by
      rcases hc with h | h
      · exact absurd h.1 hk0
      · exact h
    obtain ⟨a1, a2, a3, a4⟩ := condF_fine hg htm 1 p.whr hcf
    have hle := condF_le env t 1 p.whr
    refine ⟨⟨freeF_name h1, htn, .inr ⟨hk0, a1⟩, hn0, hw3⟩, ?_⟩
    rw [patT, if_pos hk0]
    simp only [List.length_append, List.length_cons, List.length_nil]
    omega
theorem mayKnow_env {types : List Typ} {pre : List Pat} (hf : ∀ t ∈ types, typeF t = 0) (hp : ∀ p ∈ pre, nameF p.var = 0) : MayKnow types (envF types pre) :=
  ⟨hf, fun s t h => by
    unfold envF at h
    cases hfd : pre.find? fun p => decide (p.var = s) with
    | none => rw [hfd] at h; cases h
    | some p =>
      rw [hfd] at h
      have h2 := List.find?_some hfd
      have h3 := List.mem_of_find?_eq_some hfd
      exact ⟨typedF_mem h, by rw [← of_decide_eq_true h2]; exact hp p h3⟩⟩
theorem whensF_fine {types : List Typ} (hf : ∀ t ∈ types, typeF t = 0) : ∀ {l pre : List Pat}, (∀ p ∈ pre, nameF p.var = 0) → whensF types pre l = 0 → ∀ p ∈ l, p.Fine ∧ (patT p).length ≤ 400
  | p :: l, pre, hp, h, q, hq => by
    rw [whensF] at h
    split at h
    · rename_i h1; exact absurd h h1
    rename_i h1
    have hpf := patF_fine (mayKnow_env hf hp) (by simp) (by omega : patF types (envF types pre) (pre.map (·.var)) [0, 1, 2] p = 0)
    rcases List.mem_cons.1 hq with rfl | hq
    · exact hpf
    · refine whensF_fine hf (pre := pre ++ [p]) (fun r hr => ?_) h q hq
      rcases List.mem_append.1 hr with hr | hr
      · exact hp r hr
      · rw [List.mem_singleton] at hr; subst hr; exact hpf.1.1
theorem notsF_fine {types : List Typ} {env : Envs} (hg : MayKnow types env) : ∀ {l : List Pat} {taken : List ByteArray}, notsF types env taken l = 0 → ∀ p ∈ l, p.Fine ∧ (patT p).length ≤ 400
  | p :: l, taken, h, q, hq => by
    rw [notsF] at h
    split at h
    · rename_i h1; exact absurd h h1
    rename_i h1
    rcases List.mem_cons.1 hq with rfl | hq
    · exact patF_fine hg (by simp) (by omega : patF types env taken [0] q = 0)
    · exact notsF_fine hg h q hq
theorem sumF_zero {t : Typ} {s : ByteArray} (ht : typeF t = 0) (h : sumF t s = 0) : nameF s = 0 := by
  unfold sumF at h
  split at h
  · cases h
  · obtain ⟨f, hf, hn⟩ := fieldsAt_zero (s := s) (l := t.fields) (j := 0) h
    rw [← hn]; exact ((typeF_zero ht).2.2 f hf).1
theorem maniesF_fine {types : List Typ} {env : Envs} (hg : MayKnow types env) : ∀ {l : List Mny} {taken : List ByteArray}, maniesF types env taken l = 0 → ∀ m ∈ l, m.Fine ∧ (manyT m).length ≤ 500
  | m :: l, taken, h, q, hq => by
    rw [maniesF] at h
    split at h
    · rename_i h1; exact absurd h h1
    rename_i h1
    rcases List.mem_cons.1 hq with rfl | hq
    · have hm : manyF types env taken q = 0 := by omega
      unfold manyF at hm
      split at hm
      · cases hm
      rename_i h2
      split at hm
      · rename_i h3; exact absurd hm h3
      rename_i h3
      obtain ⟨a1, a2⟩ := patF_fine hg (by simp) (by omega : patF types env taken [1] q.pat = 0)
      have hfld : q.field = emptyS ∨ nameF q.field = 0 := by
        split at hm
        · rename_i h4; exact .inl h4
        split at hm
        · cases hm
        · rename_i t ht; exact .inr (sumF_zero (hg.fine t (typedF_mem ht)) hm)
      refine ⟨⟨a1, hfld, by omega⟩, ?_⟩
      have q1 := numT_le q.count
      have q2 := numT_le q.pat.n
      unfold manyT
      simp only [List.length_append, List.length_cons, List.length_nil]
      split <;> simp only [List.length_cons, List.length_nil] <;> omega
    · exact maniesF_fine hg h q hq
theorem optF_zero {o : Opt} (h : optF o = 0) : o.Fine := by
  unfold optF at h
  split at h
  · cases h
  split at h
  · cases h
  exact ⟨by omega, by omega, by omega⟩
theorem optsF_fine : ∀ {l : List Opt}, optsF l = 0 → ∀ o ∈ l, o.Fine
  | o :: l, h, q, hq => by
    rw [optsF] at h
    split at h
    · rename_i h1; exact absurd h h1
    rename_i h1
    rcases List.mem_cons.1 hq with rfl | hq
    · exact optF_zero (by omega)
    · exact optsF_fine h q hq
theorem optT_le (o : Opt) : (optT o).length ≤ 8 := by
  have q1 := numT_le o.low
  have q2 := numT_le o.high
  unfold optT
  simp only [List.length_append, List.length_cons, List.length_nil]
  repeat' split
  all_goals (simp only [List.length_append, List.length_cons, List.length_nil]; (repeat' split) <;> (try simp only [List.length_cons, List.length_nil]) <;> omega)
theorem optsT_le : ∀ (first : Bool) (l : List Opt), (optsT first l).length ≤ 9 * l.length
  | _, [] => by simp [optsT]
  | first, o :: l => by
    have h1 := optT_le o
    have h2 := optsT_le false l
    rw [optsT]
    simp only [List.length_append, List.length_cons]
    split <;> simp only [List.length_cons, List.length_nil] <;> omega
theorem linksF_fine {x : Rul} (hw : ∀ p ∈ x.whens, p.Fine) (hn : ∀ p ∈ x.nots, p.Fine) : ∀ {l : List Lnk}, linksF x l = 0 → ∀ k ∈ l, k.Fine ∧ (linkT k).length ≤ 100
  | k :: l, h, q, hq => by
    rw [linksF] at h
    split at h
    · rename_i h1; exact absurd h h1
    rename_i h1
    rcases List.mem_cons.1 hq with rfl | hq
    · have hk : linkF x q = 0 := by omega
      unfold linkF at hk
      split at hk
      · cases hk
      rename_i h2
      split at hk
      · cases hk
      split at hk
      · cases hk
      rename_i h4
      have named : ∀ s, (inF x.whens s = true ∨ inF x.nots s = true) → nameF s = 0 := by
        intro s hs
        rcases hs with hs | hs
        · obtain ⟨p, hp, he⟩ := List.any_eq_true.1 hs
          rw [← of_decide_eq_true he]; exact (hw p hp).1
        · obtain ⟨p, hp, he⟩ := List.any_eq_true.1 hs
          rw [← of_decide_eq_true he]; exact (hn p hp).1
      refine ⟨⟨named _ ?_, named _ ?_, optsF_fine hk⟩, ?_⟩
      · cases a : inF x.whens q.left <;> cases b : inF x.nots q.left <;> simp [a, b] at h2 ⊢
      · cases a : inF x.whens q.right <;> cases b : inF x.nots q.right <;> simp [a, b] at h2 ⊢
      · have := optsT_le true q.opts
        unfold linkT
        simp only [List.length_append, List.length_cons, List.length_nil]
        omega
    · exact linksF_fine hw hn h q hq
theorem evalsF_fine {types : List Typ} {env : Envs} {t : Typ} (hg : MayKnow types env) (ht : t ∈ types) : ∀ {fs : List Fld} {os : List Opd}, os.length = fs.length → evalsF env t fs os = 0 → ∀ o ∈ os, o.Fine
  | [], [], hl, h, q, hq => by cases hq
  | [], o :: os, hl, h, q, hq => by simp at hl
  | f :: fs, [], hl, h, q, hq => by cases hq
  | f :: fs, o :: os, hl, h, q, hq => by
    rw [evalsF] at h
    split at h
    · cases h
    split at h
    · rename_i h2; exact absurd h h2
    rename_i h2
    split at h
    · cases h
    rcases List.mem_cons.1 hq with rfl | hq
    · exact sideF_fine hg ht (by omega)
    · exact evalsF_fine hg ht (by simpa using hl) h q hq
theorem evalsT_le : ∀ (first : Bool) (l : List Opd), (evalsT first l).length ≤ 4 * l.length
  | _, [] => by simp [evalsT]
  | first, o :: l => by
    have h1 := sideT_le o
    have h2 := evalsT_le false l
    rw [evalsT]
    simp only [List.length_append, List.length_cons]
    split <;> simp only [List.length_cons, List.length_nil] <;> omega
theorem flat_bound {α β : Type} {f : α → List β} {k : Nat} : ∀ {l : List α}, (∀ x ∈ l, (f x).length ≤ k) → (l.flatMap f).length ≤ l.length * k
  | [], _ => by simp
  | x :: l, h => by
    have h1 := h x (by simp)
    have h2 := flat_bound (l := l) fun y hy => h y (List.mem_cons_of_mem _ hy)
    rw [List.flatMap_cons, List.length_append, List.length_cons, Nat.add_mul]
    omega
theorem ruleF_fine {types : List Typ} {x : Rul} (hf : ∀ t ∈ types, typeF t = 0) (h : ruleF types x = 0) : x.Fine ∧ (ruleT x).length ≤ 10000 := by
  unfold ruleF at h
  split at h
  · rename_i h1; exact absurd h h1
  rename_i h1
  split at h
  · cases h
  rename_i h2
  split at h
  · rename_i h3; exact absurd h h3
  rename_i h3
  split at h
  · rename_i h4; exact absurd h h4
  rename_i h4
  split at h
  · rename_i h5; exact absurd h h5
  rename_i h5
  split at h
  · rename_i h6; exact absurd h h6
  rename_i h6
  have hw := whensF_fine hf (pre := []) (by simp) (by omega : whensF types [] x.whens = 0)
  have hg := mayKnow_env hf (pre := x.whens) fun p hp => (hw p hp).1.1
  have hn := notsF_fine hg (by omega : notsF types (envF types x.whens) (x.whens.map (·.var)) x.nots = 0)
  have hm := maniesF_fine hg (by omega : maniesF types (envF types x.whens) (x.whens.map (·.var) ++ x.nots.map (·.var)) x.manies = 0)
  have hl := linksF_fine (fun p hp => (hw p hp).1) (fun p hp => (hn p hp).1) (by omega : linksF x x.links = 0)
  have he : (x.etype = emptyS ∨ nameF x.etype = 0) ∧ (x.etype ≠ emptyS → (∀ o ∈ x.evals, o.Fine) ∧ x.evals.length ≤ 4) := by
    unfold emitF at h
    split at h
    · rename_i h7; exact ⟨.inl h7, fun hne => absurd h7 hne⟩
    split at h
    · cases h
    rename_i t ht
    split at h
    · cases h
    rename_i h8
    have htm := typedF_mem ht
    have htz := typeF_zero (hf t htm)
    have h9 := List.find?_some ht
    exact ⟨.inr (by rw [← of_decide_eq_true h9]; exact htz.1), fun _ => ⟨evalsF_fine hg htm (by omega) h, by omega⟩⟩
  refine ⟨⟨freeF_name (by omega), fun p hp => (hw p hp).1, fun p hp => (hn p hp).1, fun m hm' => (hm m hm').1, fun k hk => (hl k hk).1, he.1, fun hne => (he.2 hne).1⟩, ?_⟩
  have b1 := flat_bound (f := whenT) (k := 450) (l := x.whens) fun p hp => by
    have := (hw p hp).2
    have q2 := numT_le p.n
    unfold whenT
    simp only [List.length_append, List.length_cons, List.length_nil]
    repeat' split
    all_goals (simp only [List.length_append, List.length_cons, List.length_nil]; omega)
  have b2 := flat_bound (f := notT) (k := 450) (l := x.nots) fun p hp => by
    have := (hn p hp).2
    unfold notT
    simp only [List.length_append, List.length_cons, List.length_nil]; omega
  have b3 := flat_bound (f := manyT) (k := 500) (l := x.manies) fun p hp => (hm p hp).2
  have b4 := flat_bound (f := linkT) (k := 100) (l := x.links) fun p hp => (hl p hp).2
  have b5 : (emitT x).length ≤ 30 := by
    unfold emitT
    split
    · rename_i hne
      have := (he.2 hne).2
      have := evalsT_le true x.evals
      simp only [List.length_append, List.length_cons, List.length_nil]; omega
    · simp
  unfold ruleT
  simp only [List.length_append, List.length_cons, List.length_nil]
  omega
theorem rulesF_fine {types : List Typ} (hf : ∀ t ∈ types, typeF t = 0) : ∀ {l pre : List Rul}, rulesF types pre l = 0 → ∀ x ∈ l, x.Fine ∧ (ruleT x).length ≤ 10000
  | x :: l, pre, h, q, hq => by
    rw [rulesF] at h
    split at h
    · rename_i h1; exact absurd h h1
    rename_i h1
    split at h
    · cases h
    rcases List.mem_cons.1 hq with rfl | hq
    · exact ruleF_fine hf (by omega)
    · exact rulesF_fine hf h q hq
theorem fldsT_le : ∀ (first : Bool) (l : List Fld), (fldsT first l).length ≤ 4 * l.length
  | _, [] => by simp [fldsT]
  | first, o :: l => by
    have h2 := fldsT_le false l
    rw [fldsT]
    simp only [List.length_append, List.length_cons]
    split <;> simp only [List.length_cons, List.length_nil] <;> omega
theorem bookF_fine {b : Bok} (h : bookF b = 0) : b.Fine ∧ (bookT b).length ≤ 100000 ∧ b.types.length ≤ 6 ∧ b.rules.length ≤ 5 := by
  unfold bookF at h
  split at h
  · cases h
  rename_i h1
  split at h
  · rename_i h2; exact absurd h h2
  rename_i h2
  split at h
  · rename_i h3; exact absurd h h3
  rename_i h3
  have hf := typesF_zero (by omega : typesF [] b.types = 0)
  have hr := rulesF_fine hf (by omega : rulesF b.types [] b.rules = 0)
  refine ⟨⟨fun t ht => ⟨(typeF_zero (hf t ht)).1, (typeF_zero (hf t ht)).2.2⟩, fun x hx => (hr x hx).1⟩, ?_, by omega, by omega⟩
  have b1 := flat_bound (f := typeT) (k := 30) (l := b.types) fun t ht => by
    have := (typeF_zero (hf t ht)).2.1
    have := fldsT_le true t.fields
    unfold typeT
    simp only [List.length_append, List.length_cons, List.length_nil]; omega
  have b2 := flat_bound (f := ruleT) (k := 10000) (l := b.rules) fun x hx => (hr x hx).2
  unfold bookT
  rw [List.length_append]
  omega
end Go.Proofs.YthaamalgeieijabDoor
