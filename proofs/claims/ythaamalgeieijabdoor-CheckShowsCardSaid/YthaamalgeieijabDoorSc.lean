/- The symbolic executor: bodies with branches, blocks and loops; a function's contract out of its body. No condition. -/
import Derived.Test.YthaamalgeieijabDoorSd
set_option linter.unusedVariables false
set_option linter.unusedSimpArgs false
namespace Go.Proofs.YthaamalgeieijabDoor
open Go.RowKit

/-- What a loop carries: slots and own boxes that a round may turn, and those that stay. -/
structure LAnn where
  car : List (Nat × PSh)
  keep : List Nat
  bcar : List (Nat × List PSh)
  bkeep : List Nat
def firstR : Code → Nat
  | .region id _ _ => id
  | .seq a b => firstR a
  | .cond _ a _ => firstR a
  | .block _ a => firstR a
  | .loop a => firstR a
  | _ => 0
def headT (car : List (Nat × Value)) (keep : List Nat) : Nat → List SV → List SV
  | _, [] => []
  | i, s :: l => (match car.lookup i with
    | some v => ⟨[], .p (.v v)⟩
    | none => if keep.contains i then s else .none) :: headT car keep (i + 1) l
def headB (bcar : List (Nat × List Value)) (bkeep : List Nat) : List (Nat × (TypeId × List PV)) → List (Nat × (TypeId × List PV))
  | [] => []
  | (i, (t, cs)) :: l => match bcar.lookup i with
    | some vs => (i, (t, vs.map PV.v)) :: headB bcar bkeep l
    | none => if bkeep.contains i then (i, (t, cs)) :: headB bcar bkeep l else headB bcar bkeep l
def tag {α β : Type} : List (Nat × α) → List β → List (Nat × β)
  | (i, _) :: l, v :: vs => (i, v) :: tag l vs
  | _, _ => []
def St.head (st : St) (ann : LAnn) (vs : List Value) (bs : List (List Value)) (M L : Mem) : St :=
  { tmps := headT (tag ann.car vs) ann.keep 0 st.tmps, boxes := headB (tag ann.bcar bs) ann.bkeep st.boxes, M := M, L := L, q := st.q, esc := st.esc }
def colT (st : St) : List (Nat × PSh) → Option (List Value)
  | [] => some []
  | (i, _) :: l => match st.slot i with
    | ⟨[], x⟩ => match x.toV, colT st l with
      | some v, some vs => some (v :: vs)
      | _, _ => none
    | _ => none
def colB (st st0 : St) : List (Nat × List PSh) → Option (List (List Value))
  | [] => some []
  | (i, _) :: l => match st.boxes.lookup i, st0.boxes.lookup i with
    | some (t, cs), some (t0, _) => if t = t0 then match pvs cs, colB st st0 l with
        | some vs, some bs => some (vs :: bs)
        | _, _ => none
      else none
    | _, _ => none
def keepT (st : St) : List Nat → List AV
  | [] => []
  | i :: l => (st.slot i).x :: keepT st l
def keepC (st : St) : List Nat → Bool
  | [] => true
  | i :: l => (match st.slot i with | ⟨[], _⟩ => true | _ => false) && keepC st l
def keepB (st : St) : List Nat → List (Option (TypeId × List PV))
  | [] => []
  | i :: l => st.boxes.lookup i :: keepB st l
abbrev Ass := List Value → List (List Value) → Mem → Mem → Prop
structure LOOP (vs : List Value) (bs : List (List Value)) (M L : Mem) (body : List Value → List (List Value) → Mem → Mem → Ass → Prop) : Prop where
  ex : ∃ (I : Ass) (μ : List Value → List (List Value) → Mem → Mem → Nat), PUBD (I vs bs) M L ∧
    ∀ vs bs M' L', M.le M' → I vs bs M' L' → body vs bs M' L' fun vs' bs' M'' L'' => PUBD (fun M3 L3 => I vs' bs' M3 L3 ∧ μ vs' bs' M3 L3 < μ vs bs M' L') M'' L''
structure JOIN (M : Mem) (one : Ass → Prop) (two : List Value → List (List Value) → Mem → Mem → Prop) : Prop where
  ex : ∃ Q : Ass, (one fun vs bs M' L' => PUBD (Q vs bs) M' L') ∧ ∀ vs bs M' L', M.le M' → Q vs bs M' L' → two vs bs M' L'
def EXB : List (List PSh) → (List (List Value) → Prop) → Prop
  | [], f => f []
  | l :: ls, f => EXL l fun vs => EXB ls fun bs => f (vs :: bs)
theorem EXB_spec {l : List (List PSh)} {f : List (List Value) → Prop} (h : EXB l f) : ∃ vs, f vs := by
  induction l generalizing f with
  | nil => exact ⟨_, h⟩
  | cons s l ih => obtain ⟨v, h⟩ := EXL_spec h; obtain ⟨vs, h⟩ := ih h; exact ⟨_, h⟩
/-- What a body does, as a plain statement. -/
def wpc (P : Program) (an : List (Nat × LAnn)) (rt : St → Prop) : Code → (St → Prop) → List (Nat × (St → Prop)) → St → Prop
  | .skip, k, _, st => k st
  | .label _, k, _, st => k st
  | .ret, _, _, st => rt st
  | .seq a b, k, ex, st => match an.lookup (firstR b + 1000000) with
    | none => wpc P an rt a (fun st => wpc P an rt b k ex st) ex st
    | some ann => match keepC st ann.keep with
      | true => JOIN st.M (fun Q => wpc P an rt a (fun st' => match colT st' ann.car, colB st' st ann.bcar, keepC st' ann.keep with
          | some vs, some bs, true => if st'.tmps.length = st.tmps.length then NEED (keepT st' ann.keep = keepT st ann.keep ∧ keepB st' ann.bkeep = keepB st ann.bkeep) (Q vs bs st'.M st'.L) else STUCK 60
          | _, _, _ => STUCK 61) ex st)
        fun vs bs M' L' => EXL (ann.car.map (·.2)) fun vs' => EXB (ann.bcar.map (·.2)) fun bs' => NEED (vs = vs' ∧ bs = bs') (wpc P an rt b k ex (st.head ann vs' bs' M' L'))
      | false => STUCK 62
  | .cond c t e, k, ex, st => match st.get [] c with
    | .p (.v (.bool b)) => IFF b (wpc P an rt t k ex st) (wpc P an rt e k ex st)
    | .cb true => wpc P an rt t k ex st
    | .cb false => wpc P an rt e k ex st
    | _ => STUCK 40
  | .block id c, k, ex, st => wpc P an rt c k ((id, k) :: ex) st
  | .exit id, _, ex, st => match ex.lookup id with
    | some k => k st
    | none => STUCK 41
  | .region _ ops false, k, _, st => execL P ops k (List.range ops.size) st
  | .region id ops true, k, _, st => if P.follows .mixedOrders = true ∧ Region.noSelect ops = true then
      execD P ops ((mkB ops st).filter fun i => (st.boxes.lookup i).isSome) k ops.size (Array.replicate ops.size false) (match an.lookup (id + 2000000) with | none => true | some _ => false) st else STUCK 47
  | .loop c, k, ex, st => match an.lookup (firstR c) with
    | none => STUCK 42
    | some ann => match colT st ann.car, colB st st ann.bcar, keepC st ann.keep with
      | some vs, some bs, true => LOOP vs bs st.M st.L fun vs bs M' L' again => EXL (ann.car.map (·.2)) fun vs' => EXB (ann.bcar.map (·.2)) fun bs' => NEED (vs = vs' ∧ bs = bs')
          (wpc P an rt c (fun st' => match colT st' ann.car, colB st' st ann.bcar, keepC st' ann.keep with
            | some vs'', some bs'', true => if st'.tmps.length = st.tmps.length then NEED (keepT st' ann.keep = keepT st ann.keep ∧ keepB st' ann.bkeep = keepB st ann.bkeep) (again vs'' bs'' st'.M st'.L) else STUCK 43
            | _, _, _ => STUCK 44) ex (st.head ann vs' bs' M' L'))
      | _, _, _ => STUCK 45
  | _, _, _, _ => STUCK 46

section
variable {P : Program} {Z : Zn} {w0 w : World} {st : St} {a : Act} {ε : Env}

theorem headT_length (car : List (Nat × Value)) (keep : List Nat) : ∀ (i : Nat) (l : List SV), (headT car keep i l).length = l.length
  | _, [] => rfl
  | i, s :: l => by simp [headT, headT_length car keep (i + 1) l]
theorem headT_get (car : List (Nat × Value)) (keep : List Nat) : ∀ (i j : Nat) (l : List SV), (headT car keep i l)[j]? = (l[j]?).map fun s => match car.lookup (i + j) with
    | some v => ⟨[], .p (.v v)⟩
    | none => if keep.contains (i + j) then s else .none
  | _, _, [] => by simp [headT]
  | i, 0, s :: l => by simp [headT]
  | i, j + 1, s :: l => by
    simp only [headT, List.getElem?_cons_succ]
    rw [headT_get car keep (i + 1) j l, show i + 1 + j = i + (j + 1) by omega]
theorem colT_spec {s : St} : ∀ {l : List (Nat × PSh)} {vs : List Value}, colT s l = some vs → ∀ i v, (tag l vs).lookup i = some v → ∃ x, s.slot i = ⟨[], x⟩ ∧ x.toV = some v
  | [], vs, h, i, v, hl => by simp [tag] at hl
  | (j, _) :: l, vs, h, i, v, hl => by
    simp only [colT] at h
    split at h
    · rename_i x hs
      split at h
      · rename_i u us hu hus
        injection h with h
        subst h
        simp only [tag, List.lookup_cons] at hl
        by_cases hij : i = j
        · subst hij
          simp at hl
          subst hl
          exact ⟨x, hs, hu⟩
        · have : (i == j) = false := by simpa using hij
          rw [this] at hl
          exact colT_spec hus i v hl
      · cases h
    · cases h
theorem colB_spec {s s0 : St} : ∀ {l : List (Nat × List PSh)} {bs : List (List Value)}, colB s s0 l = some bs → ∀ i vs, (tag l bs).lookup i = some vs →
    ∃ t cs c0, s.boxes.lookup i = some (t, cs) ∧ s0.boxes.lookup i = some (t, c0) ∧ pvs cs = some vs
  | [], bs, h, i, v, hl => by simp [tag] at hl
  | (j, _) :: l, bs, h, i, v, hl => by
    simp only [colB] at h
    split at h
    · rename_i t cs t0 c0 h1 h2
      split at h
      · rename_i ht
        subst ht
        split at h
        · rename_i u us hu hus
          injection h with h
          subst h
          simp only [tag, List.lookup_cons] at hl
          by_cases hij : i = j
          · subst hij
            simp at hl
            subst hl
            exact ⟨t, cs, c0, h1, h2, hu⟩
          · have : (i == j) = false := by simpa using hij
            rw [this] at hl
            exact colB_spec hus i v hl
        · cases h
      · cases h
    · cases h
theorem keep_spec {s s0 : St} : ∀ {l : List Nat}, keepT s l = keepT s0 l → ∀ i ∈ l, (s.slot i).x = (s0.slot i).x
  | j :: l, h, i, hi => by
    simp only [keepT, List.cons.injEq] at h
    rcases List.mem_cons.1 hi with rfl | hi
    · exact h.1
    · exact keep_spec h.2 i hi
theorem keepC_spec {s : St} : ∀ {l : List Nat}, keepC s l = true → ∀ i ∈ l, (s.slot i).ch = []
  | j :: l, h, i, hi => by
    simp only [keepC, Bool.and_eq_true] at h
    rcases List.mem_cons.1 hi with rfl | hi
    · have := h.1
      split at this
      · rename_i hs; rw [hs]
      · cases this
    · exact keepC_spec h.2 i hi
theorem keepB_spec {s s0 : St} : ∀ {l : List Nat}, keepB s l = keepB s0 l → ∀ i ∈ l, s.boxes.lookup i = s0.boxes.lookup i
  | j :: l, h, i, hi => by
    simp only [keepB, List.cons.injEq] at h
    rcases List.mem_cons.1 hi with rfl | hi
    · exact h.1
    · exact keepB_spec h.2 i hi
theorem headB_lookup (bcar : List (Nat × List Value)) (bkeep : List Nat) : ∀ (l : List (Nat × (TypeId × List PV))) (i : Nat) (t : TypeId) (cs : List PV), (headB bcar bkeep l).lookup i = some (t, cs) →
    (∃ vs c0, bcar.lookup i = some vs ∧ cs = vs.map PV.v ∧ l.lookup i = some (t, c0)) ∨ (i ∈ bkeep ∧ bcar.lookup i = none ∧ l.lookup i = some (t, cs))
  | [], i, t, cs, h => by cases h
  | (j, (t', c')) :: l, i, t, cs, h => by
    unfold headB at h
    have rcc : ∀ (hne : i ≠ j), (headB bcar bkeep l).lookup i = some (t, cs) → (∃ vs c0, bcar.lookup i = some vs ∧ cs = vs.map PV.v ∧ ((j, (t', c')) :: l).lookup i = some (t, c0)) ∨ (i ∈ bkeep ∧ bcar.lookup i = none ∧ ((j, (t', c')) :: l).lookup i = some (t, cs)) := by
      intro hne h
      have e : (i == j) = false := by simpa using hne
      rw [List.lookup_cons, e]
      exact headB_lookup bcar bkeep l i t cs h
    by_cases hij : i = j
    · subst hij
      split at h
      · rename_i vs hv
        simp only [List.lookup_cons, beq_self_eq_true] at h ⊢
        injection h with h
        injection h with h1 h2
        subst h1 h2
        exact .inl ⟨vs, c', hv, rfl, rfl⟩
      · rename_i hv
        split at h
        · rename_i hk
          simp only [List.lookup_cons, beq_self_eq_true] at h ⊢
          exact .inr ⟨by simpa using hk, hv, h⟩
        · rename_i hk
          exfalso
          rcases headB_lookup bcar bkeep l i t cs h with ⟨vs, c0, h1, _⟩ | ⟨h1, _⟩
          · rw [hv] at h1; cases h1
          · exact hk (by simpa using h1)
    · have e : (i == j) = false := by simpa using hij
      split at h
      · rw [List.lookup_cons, e] at h; exact rcc hij h
      · split at h
        · rw [List.lookup_cons, e] at h; exact rcc hij h
        · exact rcc hij h
/-- The head of a loop, out of what was collected. -/
theorem head_inv {st' : St} (h : Inv Z w0 st' a w ε) {ann : LAnn} {vs : List Value} {bs : List (List Value)} (h1 : colT st' ann.car = some vs) (h2 : colB st' st ann.bcar = some bs)
    (h3 : keepC st' ann.keep = true) (h3' : keepC st ann.keep = true) (h4 : keepT st' ann.keep = keepT st ann.keep) (h5 : keepB st' ann.bkeep = keepB st ann.bkeep) (hl : st'.tmps.length = st.tmps.length) : Inv Z w0 (st.head ann vs bs st'.M st'.L) a w ε := by
  refine ⟨h.defers, by simp [St.head, headT_length, h.size, hl], fun i x y hx hy => ?_, ?_⟩
  · simp only [St.head, headT_get, Nat.zero_add] at hx
    cases hs : st.tmps[i]? with
    | none => rw [hs] at hx; cases hx
    | some s =>
      rw [hs] at hx
      injection hx with hx
      have hden := h.slotDen hy
      split at hx
      · rename_i v hv
        subst hx
        obtain ⟨x', hx', hxv⟩ := colT_spec h1 i v hv
        rw [hx'] at hden
        exact SV.den_free (AV.toV_spec hxv (hden.1 (HoldsT.nil _)))
      · split at hx
        · rename_i hk
          subst hx
          have hk' : i ∈ ann.keep := by simpa using hk
          have hsl : st.slot i = s := by simp [St.slot, List.getD_eq_getElem?_getD, hs]
          have e := keep_spec h4 i hk'
          rw [hsl] at e
          have hc := keepC_spec h3 i hk'
          have hc' := keepC_spec h3' i hk'
          rw [hsl] at hc'
          have hd : (st'.slot i).x.den ε y := hden.1 (by rw [hc]; exact HoldsT.nil _)
          rw [e] at hd
          obtain ⟨c, x⟩ := s
          simp only at hc'
          subst hc'
          exact SV.den_free hd
        · subst hx
          exact SV.den_free trivial
  · have hb : ∀ i t cs, (st.head ann vs bs st'.M st'.L).boxes.lookup i = some (t, cs) → ∃ cs', st'.boxes.lookup i = some (t, cs') ∧ (cs' = cs ∨ ∃ us, pvs cs' = some us ∧ cs = us.map PV.v) := by
      intro i t cs hi
      rcases headB_lookup _ _ _ _ _ _ hi with ⟨us, c0, h6, h7, h8⟩ | ⟨h6, h7, h8⟩
      · obtain ⟨t', cs', c0', h9, h10, h11⟩ := colB_spec h2 i us h6
        rw [h8] at h10
        injection h10 with h10
        injection h10 with h10 _
        subst h10
        exact ⟨cs', h9, .inr ⟨us, h11, h7⟩⟩
      · exact ⟨cs, by rw [keepB_spec h5 i h6]; exact h8, .inl rfl⟩
    have hp := h.hp
    exact {
      box := fun i t cs hi => by
        obtain ⟨cs', h6, h7⟩ := hb i t cs hi
        obtain ⟨us, hu, hsz, hc⟩ := hp.box i t cs' h6
        rcases h7 with rfl | ⟨xs, h7, rfl⟩
        · exact ⟨us, hu, hsz, hc⟩
        · have := pvs_spec h7
          subst this
          exact ⟨us, hu, hsz, hc⟩
      boxMine := fun i o hi => by
        obtain ⟨cs', h6, _⟩ := hb i o.1 o.2 hi
        exact hp.boxMine i _ h6
      boxInj := fun i j o u hi hj => by
        obtain ⟨_, h6, _⟩ := hb i o.1 o.2 hi
        obtain ⟨_, h7, _⟩ := hb j u.1 u.2 hj
        exact hp.boxInj i j _ _ h6 h7
      lin := hp.lin
      linMine := hp.linMine
      know := hp.know
      fresh := hp.fresh
      os := hp.os
      tape := hp.tape
      output := hp.output
      hsize := hp.hsize
      frame := hp.frame }

theorem Inv.pub (h : Inv Z w0 st a w ε) {M' L' : Mem} (hp : PUB st.M st.L M' L') : Inv Z w0 { st with M := M', L := L' } a w ε :=
  ⟨h.defers, h.size, h.tm, h.hp.step ((After.refl h.hp.know h.hp.lin h.hp.disj).pubPost hp)⟩
theorem head_pub {st' : St} (h : Inv Z w0 st' a w ε) {ann : LAnn} {vs : List Value} {bs : List (List Value)} {M' L' : Mem} (hp : PUB st'.M st'.L M' L') (h1 : colT st' ann.car = some vs) (h2 : colB st' st ann.bcar = some bs)
    (h3 : keepC st' ann.keep = true) (h3' : keepC st ann.keep = true) (h4 : keepT st' ann.keep = keepT st ann.keep) (h5 : keepB st' ann.bkeep = keepB st ann.bkeep) (hl : st'.tmps.length = st.tmps.length) : Inv Z w0 (st.head ann vs bs M' L') a w ε :=
  (head_inv h h1 h2 h3 h3' h4 h5 hl).pub hp
theorem wpc_sound {an : List (Nat × LAnn)} {rt : St → Prop} : ∀ (c : Code) (k : St → Prop) (ex : List (Nat × (St → Prop))) {m : Mem} {st : St} {a : Act} {w : World} {ε : Env} {K : Exit → Act → World → Prop},
    Inv Z w0 st a w ε → m.le st.M → wpc P an rt c k ex st → (∀ st a w ε, Inv Z w0 st a w ε → m.le st.M → k st → K .normal a w) →
    (∀ id k', ex.lookup id = some k' → ∀ st a w ε, Inv Z w0 st a w ε → m.le st.M → k' st → K (.exit id) a w) → (∀ st a w ε, Inv Z w0 st a w ε → m.le st.M → rt st → K .ret a w) → c.wp P K a w := by
  intro c
  induction c with
  | skip => exact fun k ex m st a w ε K h hm hw hk he hr => wp_skip (hk _ _ _ _ h hm hw)
  | label l => exact fun k ex m st a w ε K h hm hw hk he hr => wp_label (hk _ _ _ _ h hm hw)
  | ret => exact fun k ex m st a w ε K h hm hw hk he hr => wp_ret (hr _ _ _ _ h hm hw)
  | seq x y ihx ihy =>
    intro k ex m st a w ε K h hm hw hk he hr
    simp only [wpc] at hw
    split at hw
    · refine wp_seq (ihx _ ex h hm hw (fun st a w ε h hm hw => ?_) ?_ ?_)
      · exact ihy k ex h hm hw hk he hr
      · exact he
      · exact hr
    · rename_i ann hann
      split at hw
      · rename_i h3
        obtain ⟨Q, hone, htwo⟩ := hw
        refine wp_seq (ihx _ ex (m := st.M) h (Mem.le_refl _) hone (fun st' a w ε h hm' hw => ?_) ?_ ?_)
        · split at hw
          · rename_i vs bs h1' h2' h3'
            split at hw
            · rename_i hlen
              obtain ⟨⟨h4, h5⟩, M1, L1, hpub, hQ⟩ := hw
              have hle := Mem.le_trans hm' hpub.le
              obtain ⟨vs', hb⟩ := EXL_spec (htwo vs bs M1 L1 hle hQ)
              obtain ⟨bs', ⟨⟨rfl, rfl⟩, hw⟩⟩ := EXB_spec hb
              exact ihy k ex (head_pub h hpub h1' h2' h3' h3 h4 h5 hlen) (Mem.le_trans hm hle) hw hk he hr
            · cases hw
          · cases hw
        · exact fun id k' hl st' a w ε h hm' hw => he id k' hl _ _ _ _ h (Mem.le_trans hm hm') hw
        · exact fun st' a w ε h hm' hw => hr _ _ _ _ h (Mem.le_trans hm hm') hw
      · cases hw
  | cond c x y ihx ihy =>
    intro k ex m st a w ε K h hm hw hk he hr
    simp only [wpc] at hw
    have hg := h.get (HoldsT.nil _) c
    split at hw
    · rename_i b hb
      rw [hb] at hg
      obtain ⟨hy, hn⟩ := hw
      exact wp_cond_split hg (fun e => ihx k ex h hm (hy e) hk he hr) (fun e => ihy k ex h hm (hn e) hk he hr)
    · rename_i hb
      rw [hb] at hg
      exact wp_cond_true hg (ihx k ex h hm hw hk he hr)
    · rename_i hb
      rw [hb] at hg
      exact wp_cond_false hg (ihy k ex h hm hw hk he hr)
    · cases hw
  | block id c ih =>
    intro k ex m st a w ε K h hm hw hk he hr
    refine wp_block (ih k ((id, k) :: ex) h hm hw (fun st a w ε h hm hw => hk _ _ _ _ h hm hw) ?_ (fun st a w ε h hm hw => hr _ _ _ _ h hm hw))
    intro id' k' hl st a w ε h hm hw
    simp only [Exit.inBlock]
    rw [List.lookup_cons] at hl
    by_cases hid : id' = id
    · subst hid
      simp at hl
      subst hl
      rw [if_pos rfl]
      exact hk _ _ _ _ h hm hw
    · have e : (id' == id) = false := by simpa using hid
      rw [e] at hl
      rw [if_neg hid]
      exact he id' k' hl _ _ _ _ h hm hw
  | «exit» id =>
    intro k ex m st a w ε K h hm hw hk he hr
    simp only [wpc] at hw
    split at hw
    · rename_i k' hl
      exact wp_exit (he id k' hl _ _ _ _ h hm hw)
    · cases hw
  | region id ops d =>
    intro k ex m st a w ε K h hm hw hk he hr
    cases d with
    | false => exact wp_region (execL_sound _ h hw fun st' a w ε h hM hw => hk _ _ _ _ h (Mem.le_trans hm hM) hw)
    | true =>
      simp only [wpc] at hw
      split at hw
      · rename_i hif
        exact drawn_sound hif.1 hif.2 h hw fun st' a w ε h hM hw => hk _ _ _ _ h (Mem.le_trans hm hM) hw
      · cases hw
  | loop c ih =>
    intro k ex m st a w ε K h hm hw hk he hr
    simp only [wpc] at hw
    split at hw
    · cases hw
    · rename_i ann hann
      split at hw
      · rename_i vs bs h1 h2 h3
        obtain ⟨I, μ, h0, hround⟩ := hw
        obtain ⟨M0, L0, hp0, hI0⟩ := h0
        refine wp_loop_ghost (fun n a w => ∃ vs bs M L ε, n = μ vs bs M L ∧ I vs bs M L ∧ st.M.le M ∧ Inv Z w0 (st.head ann vs bs M L) a w ε) (μ vs bs M0 L0)
          ⟨vs, bs, M0, L0, ε, rfl, hI0, hp0.le, head_pub h hp0 h1 h2 h3 h3 rfl rfl rfl⟩ ?_
        rintro n a w ⟨vs, bs, M, L, ε, rfl, hI, hM, h⟩
        obtain ⟨vs', hb⟩ := EXL_spec (hround vs bs M L hM hI)
        obtain ⟨bs', ⟨⟨rfl, rfl⟩, hw⟩⟩ := EXB_spec hb
        refine ih _ ex (m := M) h (Mem.le_refl _) hw (fun st' a w ε h hm' hw => ?_) ?_ ?_
        · split at hw
          · rename_i vs'' bs'' h1' h2' h3'
            split at hw
            · rename_i hlen
              obtain ⟨⟨h4, h5⟩, M1, L1, hpub, hI', hμ⟩ := hw
              exact ⟨_, hμ, vs'', bs'', M1, L1, ε, rfl, hI', Mem.le_trans hM (Mem.le_trans hm' hpub.le), head_pub h hpub h1' h2' h3' h3 h4 h5 hlen⟩
            · cases hw
          · cases hw
        · exact fun id k' hl st' a w ε h hm' hw => he id k' hl _ _ _ _ h (Mem.le_trans hm (Mem.le_trans hM hm')) hw
        · exact fun st' a w ε h hm' hw => hr _ _ _ _ h (Mem.le_trans hm (Mem.le_trans hM hm')) hw
      · cases hw
  | _ => intro k ex m st a w ε K h hm hw; simp only [wpc] at hw; cases hw

/-! ### A function -/
def retV (P : Program) (st : St) : List ResultVar → Option (List Value)
  | [] => some []
  | .tmp t :: l => match st.slot t with
    | ⟨[], x⟩ => match x.toV, retV P st l with
      | some v, some vs => some (v :: vs)
      | _, _ => none
    | _ => none
  | .cell t ty :: l => match st.slot t with
    | ⟨[], x⟩ => match evLoad P st ty x with
      | some r => match r.toV, retV P st l with
        | some v, some vs => some (v :: vs)
        | _, _ => none
      | none => none
    | _ => none
def oneOr : List Value → Value
  | [v] => v
  | l => .tuple l.toArray
def resOf (tmps : Array Value) : ResultVar → Sem Value
  | .tmp t => pure (tmps.getD t undef)
  | .cell x t => do loadVar t (← asAddr (tmps.getD x undef))
theorem retV_run (h : Inv Z w0 st a w ε) : ∀ {l : List ResultVar} {vs : List Value}, retV P st l = some vs → (l.mapM (resOf a.tmps)).run P w = .ok vs w
  | [], vs, hr => by simp [retV] at hr; subst hr; simp
  | .tmp t :: l, vs, hr => by
    simp only [retV] at hr
    split at hr
    · rename_i x hs
      split at hr
      · rename_i v us hv hus
        injection hr with hr
        subst hr
        have hg := h.get (HoldsT.nil _) (.tmp t)
        simp only [St.get, hs, List.all_nil, if_true] at hg
        have e : (resOf a.tmps (.tmp t)).run P w = .ok v w := by
          have := AV.toV_spec hv hg
          simp only [Act.eval] at this
          simp only [resOf, Sem.run_pure, this]
        simp only [List.mapM_cons, Sem.run_bind, e, Result.andThen_ok, retV_run h hus, Sem.run_pure]
      · cases hr
    · cases hr
  | .cell t ty :: l, vs, hr => by
    simp only [retV] at hr
    split at hr
    · rename_i x hs
      split at hr
      · rename_i r hl
        split at hr
        · rename_i v us hv hus
          injection hr with hr
          subst hr
          have hg := h.get (HoldsT.nil _) (.tmp t)
          simp only [St.get, hs, List.all_nil, if_true] at hg
          obtain ⟨z, hz0, hd⟩ := evLoad_run h hl hg
          have hz := hz0 w (fun _ _ _ => rfl)
          have e := AV.toV_spec hv hd
          subst e
          have hown : ∃ i o, x = .p (.own i o) := by
            unfold evLoad at hl
            split at hl
            · exact ⟨_, _, rfl⟩
            · cases hl
          obtain ⟨i, o, rfl⟩ := hown
          have hp : a.eval (.tmp t) = .pointer (some ⟨ε.bx i, o, none⟩) := hg
          simp only [Act.eval] at hp hz
          rw [hp] at hz
          simp only [Instr.loadAt, Instr.sureAddr, Sem.run_bind, Sem.run_pure, Result.andThen_ok] at hz
          have e : (resOf a.tmps (.cell t ty)).run P w = .ok z w := by
            simp only [resOf, hp, asAddr, Sem.run_bind, Sem.run_pure, Result.andThen_ok, hz]
          simp only [List.mapM_cons, Sem.run_bind, e, Result.andThen_ok, retV_run h hus, Sem.run_pure]
        · cases hr
      · cases hr
    · cases hr
theorem retV_results {fn : Func} {vs : List Value} (h : Inv Z w0 st a w ε) (hr : retV P st fn.results.toList = some vs) : (results fn a.tmps).run P w = .ok (oneOr vs) w := by
  have e : results fn a.tmps = (do let vs ← fn.results.mapM (resOf a.tmps); pure (if h : vs.size = 1 then vs[0] else .tuple vs)) := rfl
  have hrun := retV_run h hr
  rw [e, Array.mapM_eq_mapM_toList]
  have hm : (List.toArray <$> List.mapM (resOf a.tmps) fn.results.toList).run P w = .ok vs.toArray w := by
    rw [map_eq_pure_bind]
    simp only [Sem.run_bind, hrun, Result.andThen_ok, Sem.run_pure]
  simp only [Sem.run_bind, hm, Result.andThen_ok, Sem.run_pure]
  congr 1
  match vs with
  | [] => rfl
  | [v] => rfl
  | v :: u :: l => simp [oneOr]
def start (n : Nat) (args : List Value) (M L : Mem) (esc : List Nat) : St := { tmps := args.map (fun v => ⟨[], .p (.v v)⟩) ++ List.replicate (n - args.length) SV.none, boxes := [], M := M, L := L, q := false, esc := esc }
def RET (P : Program) (rs : List ResultVar) (Post : Value → Mem → Mem → Prop) (st : St) : Prop := match retV P st rs with
  | some vs => Post (oneOr vs) st.M st.L
  | none => STUCK 50
/-- A contract, out of the body. -/
theorem pspec_of {an : List (Nat × LAnn)} {f : FuncId} {fn : Func} {c : Code} (hf : P.funcs[f]? = some fn) (hb : fn.body = some c) {args : List Value} {M L : Mem} {esc : List Nat} {Post : Value → Mem → Mem → Prop}
    (h : wpc P an (RET P fn.results.toList Post) c (RET P fn.results.toList Post) [] (start fn.ntmps args M L esc)) : PSpec P f args.toArray M L Post := by
  intro w hk hkl hdis
  refine calls_of_wp hf hb (wpc_sound (Z := ⟨fun k => L k ≠ none, M⟩) (w0 := w) (ε := ⟨fun _ => 0⟩) (m := M) c _ [] ⟨rfl, ?_, ?_, ?_⟩ (Mem.le_refl _) h ?_ ?_ ?_)
  · show (args.toArray ++ Array.replicate (fn.ntmps - args.toArray.size) undef).size = _
    simp [start]
  · intro i x y hx hy
    simp only [start, List.getElem?_append, List.length_map, List.getElem?_map] at hx
    replace hy : (args.toArray ++ Array.replicate (fn.ntmps - args.toArray.size) undef)[i]? = some y := hy
    rw [Array.getElem?_append] at hy
    simp only [List.size_toArray] at hy
    split at hx
    · rename_i hlt
      rw [if_pos hlt] at hy
      cases hv : args[i]? with
      | none => rw [hv] at hx; cases hx
      | some v =>
        rw [hv] at hx
        injection hx with hx
        subst hx
        refine SV.den_free ?_
        have : some y = some v := by rw [← hy, ← hv]; simp
        injection this
    · rw [List.getElem?_replicate] at hx
      split at hx
      · injection hx with hx
        subst hx
        exact SV.den_free trivial
      · cases hx
  · exact {
      box := fun i t cs hi => by cases hi
      boxMine := fun i o hi => by cases hi
      boxInj := fun i j o u hi => by cases hi
      lin := hkl
      linMine := fun k o hx => ⟨.inr (by intro hn; change L k = some o at hx; rw [hn] at hx; cases hx), hdis k o hx⟩
      know := hk
      fresh := fun k o hx => .inl hx
      os := rfl
      tape := rfl
      output := rfl
      hsize := Nat.le_refl _
      frame := fun k _ _ => rfl }
  all_goals try (intro id k' hl; cases hl; done)
  all_goals
    intro st a w' ε h hm hr
    unfold RET at hr
    split at hr
    · rename_i vs hvs
      exact ⟨h.defers, _, retV_results h hvs, _, st.M, st.L, rfl, { le := hm, know := h.hp.know, lin := h.hp.lin, disj := h.hp.disj, newM := h.hp.fresh, newL := fun k o hx => (h.hp.linMine k o hx).1.symm, os := h.hp.os, tape := h.hp.tape, output := h.hp.output, size := h.hp.hsize, frame := fun k hk hn => h.hp.frame k hk (fun x => x hn) }, hr⟩
    · cases hr
/-- What is to be shown of a function at these arguments. -/
def VC (P : Program) (an : List (Nat × LAnn)) (esc : List Nat) (fn : Func) (args : List Value) (M L : Mem) (Post : Value → Mem → Mem → Prop) : Prop := match fn.body with
  | some c => wpc P an (RET P fn.results.toList Post) c (RET P fn.results.toList Post) [] (start fn.ntmps args M L esc)
  | none => STUCK 51
theorem pspec_vc {an : List (Nat × LAnn)} {f : FuncId} {fn : Func} (hf : P.funcs[f]? = some fn) {args : List Value} {M L : Mem} {esc : List Nat} {Post : Value → Mem → Mem → Prop} (h : VC P an esc fn args M L Post) : PSpec P f args.toArray M L Post := by
  unfold VC at h
  split at h
  · rename_i c hc
    exact pspec_of hf hc h
  · cases h
end
end Go.Proofs.YthaamalgeieijabDoor
