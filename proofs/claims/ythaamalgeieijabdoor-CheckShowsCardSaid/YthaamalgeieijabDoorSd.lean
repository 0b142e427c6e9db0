/- The symbolic executor: a region whose order the language leaves open. What only computes or reads what stays may be taken first; what may come up besides comes up in every order. Sound. No condition. -/
import Derived.Test.YthaamalgeieijabDoorSw
import Derived.OrdersHeld
set_option linter.unusedVariables false
set_option linter.unusedSimpArgs false
namespace Go.Proofs.YthaamalgeieijabDoor
open Go.RowKit

structure BOTH (p q : Prop) : Prop where
  fst : p
  snd : q
def allOf (f : Nat → Prop) : List Nat → Prop
  | [] => True
  | [i] => f i
  | i :: j :: l => BOTH (f i) (allOf f (j :: l))
theorem allOf_spec {f : Nat → Prop} : ∀ {l : List Nat}, allOf f l → ∀ i ∈ l, f i
  | [i], h, j, hj => by rw [List.mem_singleton] at hj; subst hj; exact h
  | i :: k :: l, h, j, hj => by
    rcases List.mem_cons.1 hj with rfl | hj
    · exact h.fst
    · exact allOf_spec h.snd j hj
def boxOK (st : St) (ch : List (Nat × Bool)) (B : List Nat) : Op → Bool
  | .load _ x => match st.get ch x with
    | .p (.own i _) => B.contains i
    | _ => true
  | _ => true
def ptrLoad (st : St) (ch : List (Nat × Bool)) : Op → Bool
  | .load _ x => match st.get ch x with
    | .ptr _ _ => true
    | .p (.v (.pointer _)) => true
    | _ => false
  | _ => false
def quietFree (P : Program) (o : Oper) (st : St) (B : List Nat) (fr : Bool) : Bool := match evPure P st [] o.op with
  | some _ => boxOK st [] B o.op
  | none => fr && ptrLoad st [] o.op
def quietB (P : Program) (ops : Array Oper) (o : Oper) (st : St) (B : List Nat) (fr : Bool) : Bool := match o.guard with
  | none => quietFree P o st B fr
  | some (j, b) => match (ops[j]?).bind (·.dst) with
    | none => false
    | some d => match st.slot d with
      | ⟨[], .cb u⟩ => if u = b then quietFree P o st B fr else true
      | ⟨[], .p (.v (.tuple _))⟩ => true
      | ⟨c, _⟩ => match condOf st ((d, b) :: c) with
        | none => false
        | some _ => match evPure P st ((d, b) :: c) o.op with
          | some _ => boxOK st ((d, b) :: c) B o.op
          | none => match o.op with
            | .load _ _ => fr
            | _ => false
def isStore : Op → Bool
  | .store _ _ _ => true
  | _ => false
def mkB (ops : Array Oper) (st : St) : List Nat := if ops.toList.any (fun o => isStore o.op) then [] else (st.boxes.map (·.1)).filter fun i => !(ops.toList.any fun o => o.dst == some i)
def findTake (P : Program) (ops : Array Oper) (listed : Array Bool) (st : St) (B : List Nat) (fr : Bool) : List Nat → Option Nat
  | [] => none
  | j :: l => match ops[j]? with
    | some o => if quietB P ops o st B fr = true ∧ Region.free .any ops listed j = true then some j else findTake P ops listed st B fr l
    | none => findTake P ops listed st B fr l
def doAt (P : Program) (ops : Array Oper) (k : St → Prop) (st : St) (i : Nat) : Prop := match ops[i]? with
  | some o => doOp P ops o k st
  | none => STUCK 31
def execD (P : Program) (ops : Array Oper) (B : List Nat) (k : St → Prop) : Nat → Array Bool → Bool → St → Prop
  | 0, listed, _, st => match Region.ready .any ops listed with
    | [] => k st
    | _ :: _ => STUCK 32
  | n + 1, listed, fr, st => match Region.ready .any ops listed with
    | [] => k st
    | i :: rs => match findTake P ops listed { st with q := true } B fr (i :: rs) with
      | some j => doAt P ops (fun st => st.force fun st => execD P ops B k n (listed.setIfInBounds j true) fr { st with q := false }) { st with q := true } j
      | none => allOf (fun j => doAt P ops (fun st => st.force fun st => execD P ops B k n (listed.setIfInBounds j true) false st) st j) (i :: rs)

section
variable {P : Program} {Z : Zn} {w0 w : World} {st : St} {a : Act} {ε : Env}

theorem mkB_store {ops : Array Oper} {st : St} {j : Nat} {o : Oper} (ho : ops[j]? = some o) (hs : ∃ t x y, o.op = .store t x y) : mkB ops st = [] := by
  unfold mkB
  rw [if_pos]
  rw [List.any_eq_true]
  obtain ⟨t, x, y, hop⟩ := hs
  exact ⟨o, by have := Array.mem_of_getElem? ho; simpa using this, by rw [hop]; rfl⟩
theorem mkB_dst {ops : Array Oper} {st : St} {j : Nat} {o : Oper} (ho : ops[j]? = some o) {i : Nat} (hi : i ∈ mkB ops st) : o.dst ≠ some i := by
  unfold mkB at hi
  split at hi
  · cases hi
  · intro hd
    have := (List.mem_filter.1 hi).2
    rw [Bool.not_eq_true', List.any_eq_false] at this
    exact this o (by have := Array.mem_of_getElem? ho; simpa using this) (by simp [hd])
theorem findTake_spec {ops : Array Oper} {listed : Array Bool} {B : List Nat} {fr : Bool} : ∀ {l : List Nat} {j : Nat}, findTake P ops listed st B fr l = some j → j ∈ l ∧ ∃ o, ops[j]? = some o ∧ quietB P ops o st B fr = true ∧ Region.free .any ops listed j = true
  | i :: l, j, h => by
    unfold findTake at h
    split at h
    · rename_i o ho
      split at h
      · rename_i hq
        injection h with h
        subst h
        exact ⟨by simp, o, ho, hq.1, hq.2⟩
      · obtain ⟨h1, h2⟩ := findTake_spec h
        exact ⟨List.mem_cons_of_mem _ h1, h2⟩
    · obtain ⟨h1, h2⟩ := findTake_spec h
      exact ⟨List.mem_cons_of_mem _ h1, h2⟩

/-- What an operation that may be taken first does: in every like world the same. -/
structure Quiet (P : Program) (ops : Array Oper) (o : Oper) (a : Act) (S : World → Prop) (Z : Zn) (w0 w : World) (ε : Env) (st : St) (k : St → Prop) : Prop where
  ex : ∃ v st', YieldsIf P ops S o v a ∧ Inv Z w0 st' (a.put o.dst v) w ε ∧ (st'.M = st.M ∧ st'.L = st.L) ∧ k st'
theorem quietFree_spec {ops : Array Oper} {o : Oper} {B : List Nat} {fr : Bool} {k : St → Prop} {S : World → Prop} (hq1 : st.q = true) (h : Inv Z w0 st a w ε) (hS : ∀ w', S w' → (fr = true → Knows st.M w') ∧ ∀ i ∈ B, w'.heap[ε.bx i]? = w.heap[ε.bx i]?)
    (hw : Region.wanted o (yielded ops a.tmps) = true) (hq : quietFree P o st B fr = true) (he : freeOp P o k st) : Quiet P ops o a S Z w0 w ε st k := by
  have hnil : Holds a [] := HoldsT.nil _
  unfold quietFree at hq
  unfold freeOp at he
  cases hev : evPure P st [] o.op with
  | some nr =>
    obtain ⟨ns, r⟩ := nr
    rw [hev] at hq he
    dsimp only at hq he
    split at he
    · rename_i d hd
      obtain ⟨hk, hn⟩ := needs_spec he
      obtain ⟨y, hy, hden⟩ := evPure_run h hnil hev (hn (fun b hb => by cases hb))
      refine ⟨y, st.put d ⟨[], r⟩, .inl ⟨hw, fun w' hw' => hy w' fun t x hop i o' hx => ?_⟩, by rw [hd]; exact h.put d ⟨[], r⟩ y (SV.den_free hden), ⟨rfl, rfl⟩, hk⟩
      rw [hop] at hq
      simp only [boxOK, hx] at hq
      exact (hS w' hw').2 i (by simpa using hq)
    · cases he
  | none =>
    rw [hev] at hq he
    dsimp only at hq he
    simp only [Bool.and_eq_true] at hq
    obtain ⟨hfr, hp⟩ := hq
    unfold ptrLoad at hp
    split at hp
    · rename_i t x hop
      unfold doEff at he
      rw [hop] at he
      dsimp only at he
      have hax := h.get hnil x
      split at he
      · rename_i A j hx
        obtain ⟨v, hv⟩ := EXS_spec he
        split at hv
        case isFalse => cases hv
        rename_i hif
        obtain ⟨hr, h2⟩ := hv
        rw [hx] at hax
        obtain ⟨ad, rfl, hy⟩ := hax
        refine ⟨v, _, .inl ⟨hw, fun w' hw' => ?_⟩, h.putO o.dst ⟨[], .p (.v v)⟩ v (fun tm => SV.den_free rfl), ⟨putO_M _ _ _, putO_L _ _ _⟩, h2⟩
        obtain ⟨ad', e, hrun⟩ := run_loadMem (P := P) (M := st.mem) (by rw [St.mem, hq1]; exact (hS w' hw').1 hfr) hr hif.1 hif.2
        injection e with e
        subst e
        simp [execOp, hop, hy, hrun]
      · rename_i A hx
        obtain ⟨v, hv⟩ := EXS_spec he
        split at hv
        case isFalse => cases hv
        rename_i hif
        obtain ⟨hr, h2⟩ := hv
        rw [hx] at hax
        have hy : a.eval x = .pointer A := hax
        refine ⟨v, _, .inl ⟨hw, fun w' hw' => ?_⟩, h.putO o.dst ⟨[], .p (.v v)⟩ v (fun tm => SV.den_free rfl), ⟨putO_M _ _ _, putO_L _ _ _⟩, h2⟩
        obtain ⟨ad, e, hrun⟩ := run_loadMem (P := P) (M := st.mem) (by rw [St.mem, hq1]; exact (hS w' hw').1 hfr) hr hif.1 hif.2
        subst e
        have had : ad.add 0 = ad := by simp [Addr.add]
        rw [had] at hrun
        simp [execOp, hop, hy, hrun]
      · cases he
    · cases hp
theorem quiet_spec {ops : Array Oper} {i : Nat} {o : Oper} (ho : ops[i]? = some o) {B : List Nat} {fr : Bool} {k : St → Prop} {S : World → Prop} (hq1 : st.q = true) (h : Inv Z w0 st a w ε) (hS : ∀ w', S w' → (fr = true → Knows st.M w') ∧ ∀ i ∈ B, w'.heap[ε.bx i]? = w.heap[ε.bx i]?)
    (hq : quietB P ops o st B fr = true) (he : doOp P ops o k st) : Quiet P ops o a S Z w0 w ε st k := by
  unfold quietB at hq
  unfold doOp at he
  cases hgd : o.guard with
  | none =>
    rw [hgd] at hq he
    exact quietFree_spec hq1 h hS (by simp [Region.wanted, hgd]) hq he
  | some jb =>
    obtain ⟨j, b⟩ := jb
    rw [hgd] at hq he
    dsimp only at hq he
    cases hd : (ops[j]?).bind (·.dst) with
    | none => rw [hd] at he; cases he
    | some d =>
      rw [hd] at hq he
      dsimp only at hq he
      have hwant : Region.wanted o (yielded ops a.tmps) = true ↔ a.tmps[d]? = some (.bool b) := by
        simp only [Region.wanted, hgd, yielded, hd, Option.bind_some]
        cases hx : a.tmps[d]? with
        | none => simp
        | some v => cases v <;> simp
      have hskip : a.tmps[d]? ≠ some (.bool b) → k (skipOp st o) → Quiet P ops o a S Z w0 w ε st k := fun hne hk =>
        ⟨undef, _, .inr ⟨by
          cases hx : Region.wanted o (yielded ops a.tmps) with
          | false => rfl
          | true => exact absurd (hwant.1 hx) hne, rfl⟩, skip_inv h o, ⟨putO_M _ _ _, putO_L _ _ _⟩, hk⟩
      split at he
      · rename_i u hs
        rw [hs] at hq
        dsimp only at hq
        obtain ⟨v, hv⟩ := h.inRange hs (b := u) rfl
        have hden := h.slotDen hv
        rw [hs] at hden
        have hvu : v = .bool u := hden.1 (HoldsT.nil _)
        split at he
        · rename_i hub
          rw [if_pos hub] at hq
          exact quietFree_spec hq1 h hS (hwant.2 (by rw [hv, hvu, hub])) hq he
        · rename_i hub
          exact hskip (fun hw => hub (by rw [hv, hvu] at hw; injection hw with hw; injection hw)) he
      · rename_i vs hs
        exact hskip (fun hv => by
          have hden := h.slotDen hv
          rw [hs] at hden
          have : Value.bool b = .tuple vs := hden.1 (HoldsT.nil _)
          cases this) he
      · rename_i c x hov1 hov2 hs
        have hchain : a.tmps[d]? = some (.bool b) → Holds a ((d, b) :: c) := by
          intro hv
          have hden := h.slotDen hv
          rw [hs] at hden
          have hc : Holds a c := Classical.byContradiction fun hn => by have := hden.2 hn; simp [undef] at this
          intro q hq
          rcases List.mem_cons.1 hq with rfl | hq
          · exact hv
          · exact hc q hq
        rw [hs] at hq
        have hq : (match condOf st ((d, b) :: c) with
          | none => false
          | some _ => match evPure P st ((d, b) :: c) o.op with
            | some _ => boxOK st ((d, b) :: c) B o.op
            | none => match o.op with
              | .load _ _ => fr
              | _ => false) = true := by
          revert hq
          split
          · rename_i u heq
            injection heq with e1 e2
            exact (hov1 u e1 e2).elim
          · rename_i vs heq
            injection heq with e1 e2
            exact (hov2 vs e1 e2).elim
          · rename_i c' x' _ _ heq
            injection heq with e1 e2
            subst e1
            exact fun hq => hq
        split at he
        · cases he
        · rename_i g hg
          have hiff := condOf_spec h hg
          rw [hg] at hq
          dsimp only at hq
          split at he
          · rename_i ns r hev
            rw [hev] at hq
            dsimp only at hq
            obtain ⟨hk, hn⟩ := needs_spec he
            obtain ⟨d', hd', hne, hk⟩ := St.put'_spec hk
            by_cases hw : a.tmps[d]? = some (.bool b)
            · have hH := hchain hw
              obtain ⟨y, hy, hden⟩ := evPure_run h hH hev (hn (fun b' hb' => by injection hb' with hb'; rw [← hb']; exact hiff.1 hH))
              refine ⟨y, st.put d' ⟨(d, b) :: c, r⟩, .inl ⟨hwant.2 hw, fun w' hw' => hy w' fun t x hop i o' hx => ?_⟩, by rw [hd']; exact h.put d' _ y ⟨fun _ => hden, fun hn' => absurd ((HoldsT.set hne).2 hH) hn'⟩, ⟨rfl, rfl⟩, hk⟩
              rw [hop] at hq
              have hq' : boxOK st ((d, b) :: c) B (.load t x) = true := hq
              simp only [boxOK, hx] at hq'
              exact (hS w' hw').2 i (by simpa using hq')
            · have hH : ¬ Holds a ((d, b) :: c) := fun hh => hw (hh (d, b) (by simp))
              refine ⟨undef, st.put d' ⟨(d, b) :: c, r⟩, .inr ⟨by
                cases hx : Region.wanted o (yielded ops a.tmps) with
                | false => rfl
                | true => exact absurd (hwant.1 hx) hw, rfl⟩, by rw [hd']; exact h.put d' _ undef ⟨fun hh => absurd ((HoldsT.set hne).1 hh) hH, fun _ => rfl⟩, ⟨rfl, rfl⟩, hk⟩
          · rename_i hev
            rw [hev] at hq
            dsimp only at hq
            split at he
            · rename_i t x hop
              have hfr : fr = true := by
                rw [hop] at hq
                exact hq
              unfold gLoad at he
              split at he
              · rename_i A j' hx
                obtain ⟨v, hv⟩ := EXS_spec he
                split at hv
                case isFalse => cases hv
                rename_i hif
                obtain ⟨h1, h2⟩ := hv
                obtain ⟨d', hd', hne, hk⟩ := St.put'_spec h2
                by_cases hw : a.tmps[d]? = some (.bool b)
                · have hH := hchain hw
                  have hr := h1 (hiff.1 hH)
                  have hax := h.get hH x
                  refine ⟨v, st.put d' ⟨(d, b) :: c, .p (.v v)⟩, .inl ⟨hwant.2 hw, fun w' hw' => ?_⟩, by rw [hd']; exact h.put d' ⟨(d, b) :: c, .p (.v v)⟩ v ⟨fun _ => rfl, fun hn' => absurd ((HoldsT.set hne).2 hH) hn'⟩, ⟨rfl, rfl⟩, hk⟩
                  obtain ⟨ad', e, hrun⟩ := run_loadMem (P := P) (M := st.mem) (by rw [St.mem, hq1]; exact (hS w' hw').1 hfr) hr hif.1 hif.2
                  have hy := ptrOf_spec hx hax ad' e
                  simp [execOp, hop, hy, hrun]
                · have hH : ¬ Holds a ((d, b) :: c) := fun hh => hw (hh (d, b) (by simp))
                  refine ⟨undef, st.put d' ⟨(d, b) :: c, .p (.v v)⟩, .inr ⟨by
                    cases hx : Region.wanted o (yielded ops a.tmps) with
                    | false => rfl
                    | true => exact absurd (hwant.1 hx) hw, rfl⟩, by rw [hd']; exact h.put d' _ undef ⟨fun hh => absurd ((HoldsT.set hne).1 hh) hH, fun _ => rfl⟩, ⟨rfl, rfl⟩, hk⟩
              · cases he
            · rename_i hnl
              revert hq
              split
              · rename_i t x hop
                exact absurd hop (hnl t x)
              · exact fun hq => by cases hq

theorem execD_sound {ops : Array Oper} (hsel : Region.noSelect ops = true) {B : List Nat} {k : St → Prop} {Q : Act → World → Prop} {M0 : Mem} {β : Nat → Nat} {H : Nat → Option Obj}
    (hB1 : ∀ (j : Nat) (o : Oper), ops[j]? = some o → (∃ t x y, o.op = .store t x y) → B = []) (hB2 : ∀ (j : Nat) (o : Oper), ops[j]? = some o → ∀ i ∈ B, o.dst ≠ some i) :
    ∀ (n : Nat) (listed : Array Bool) (fr : Bool) {st : St} {a : Act} {w : World} {ε : Env}, Inv Z w0 st a w ε → (fr = true → st.M = M0) → M0.le st.M → (∀ i ∈ B, ε.bx i = β i) → (∀ i ∈ B, w.heap[β i]? = H i ∧ β i < w.heap.size ∧ st.L (β i) = none) → execD P ops B k n listed fr st →
    (∀ st' a w ε, Inv Z w0 st' a w ε → M0.le st'.M → k st' → Q a w) →
    wpAnyH P .any ops (fun e a w => e = .normal ∧ Q a w) (fun w' => Knows M0 w' ∧ ∀ i ∈ B, w'.heap[β i]? = H i) n listed a w := by
  intro n
  induction n with
  | zero =>
    intro listed fr st a w ε h hfr hM hβ hH he hK
    simp only [execD] at he
    split at he
    · rename_i hr
      exact ⟨hr, rfl, hK _ _ _ _ h hM he⟩
    · cases he
  | succ n ih =>
    intro listed fr st a w ε h hfr hM hβ hH he hK
    simp only [execD] at he
    split at he
    · rename_i hr
      exact wpAnyH_done hr ⟨rfl, hK _ _ _ _ h hM he⟩ _
    · rename_i i rs hr
      split at he
      · rename_i j hj
        obtain ⟨hmem, o, ho, hq, hfree⟩ := findTake_spec hj
        unfold doAt at he
        rw [ho] at he
        dsimp only at he
        obtain ⟨v, st', hy, hinv, hMeq, hk⟩ := quiet_spec (S := fun w' => Knows M0 w' ∧ ∀ i ∈ B, w'.heap[β i]? = H i) ho rfl (⟨h.defers, h.size, h.tm, h.hp⟩ : Inv Z w0 { st with q := true } a w ε) (fun w' hw' => ⟨fun hf => by have := hfr hf; show Knows st.M w'; rw [this]; exact hw'.1, fun i hi => by rw [hβ i hi, hw'.2 i hi, (hH i hi).1]⟩) hq he
        rw [St.force_eq] at hk
        refine wpAnyH_take ho hsel hfree (by rw [hr]; simpa using hmem) (fun c a w hc => by cases hc.1) hy ⟨fun k o hk => h.hp.know k o (hM k o hk), fun i hi => (hH i hi).1⟩ ?_
        exact ih _ fr (⟨hinv.defers, hinv.size, hinv.tm, hinv.hp⟩ : Inv Z w0 { st' with q := false } _ w ε) (fun hf => hMeq.1.trans (hfr hf)) (by show M0.le st'.M; rw [hMeq.1]; exact hM) hβ (fun i hi => ⟨(hH i hi).1, (hH i hi).2.1, by show st'.L _ = none; rw [hMeq.2]; exact (hH i hi).2.2⟩) hk hK
      · refine wpAnyH_all hr (by simp) fun j hj => ?_
        have hd := allOf_spec he j hj
        unfold doAt at hd
        split at hd
        · rename_i o ho
          refine doOp_sound ho h hd fun st' a' w' ε' hinv hMle hstp hk => ?_
          rw [St.force_eq] at hk
          have hβ' : ∀ i ∈ B, ε'.bx i = β i := fun i hi => (hstp.bx i (hB2 j o ho i hi)).trans (hβ i hi)
          have hH' : ∀ i ∈ B, w'.heap[β i]? = H i := fun i hi => by
            rcases hstp.heap (β i) (hH i hi).2.1 (hH i hi).2.2 with hst | hst
            · rw [hB1 j o ho hst] at hi; cases hi
            · rw [hst]; exact (hH i hi).1
          have hM' := Mem.le_trans hM hMle
          refine ⟨⟨fun k o hk => hinv.hp.know k o (hM' k o hk), hH'⟩, ih _ false hinv (fun hf => by cases hf) hM' hβ' (fun i hi => ⟨hH' i hi, ?_, hstp.lin (β i) (hH i hi).2.1 (hH i hi).2.2⟩) hk hK⟩
          have h1 := (hH i hi).1
          have h2 := hH' i hi
          have h3 : β i < w.heap.size := (hH i hi).2.1
          rw [Array.getElem?_eq_getElem h3] at h1
          rw [← h1] at h2
          exact (Array.getElem?_eq_some_iff.1 h2).1
        · cases hd
/-- A region whose order is drawn. -/
theorem drawn_sound {id : Nat} {ops : Array Oper} {fr : Bool} {k : St → Prop} {K : Exit → Act → World → Prop} (hm : P.follows .mixedOrders = true) (hsel : Region.noSelect ops = true) (h : Inv Z w0 st a w ε)
    (he : execD P ops ((mkB ops st).filter fun i => (st.boxes.lookup i).isSome) k ops.size (Array.replicate ops.size false) fr st) (hK : ∀ st' a w ε, Inv Z w0 st' a w ε → st.M.le st'.M → k st' → K .normal a w) : (Code.region id ops true).wp P K a w := by
  have h' : Inv Z w0 st a { w with drawn := w.drawn + 1 } ε := ⟨h.defers, h.size, h.tm, {
    box := h.hp.box, boxMine := h.hp.boxMine, boxInj := h.hp.boxInj, lin := h.hp.lin, linMine := h.hp.linMine, know := h.hp.know, fresh := h.hp.fresh, os := h.hp.os, tape := h.hp.tape, output := h.hp.output, hsize := h.hp.hsize, frame := h.hp.frame }⟩
  refine wp_mono (wp_region_held (S := fun w' => Knows st.M w' ∧ ∀ i ∈ (mkB ops st).filter (fun i => (st.boxes.lookup i).isSome), w'.heap[ε.bx i]? = w.heap[ε.bx i]?) hm
    (execD_sound (Q := fun a w => K .normal a w) (M0 := st.M) (β := ε.bx) (H := fun i => w.heap[ε.bx i]?) hsel (fun j o ho hs => by rw [mkB_store ho hs]; rfl) (fun j o ho i hi => mkB_dst ho (List.mem_filter.1 hi).1) _ _ fr h' (fun _ => rfl) (Mem.le_refl _) (fun _ _ => rfl)
      (fun i hi => ⟨rfl, ?_⟩) he hK)) ?_
  · have hsome := (List.mem_filter.1 hi).2
    cases hl : st.boxes.lookup i with
    | none => rw [hl] at hsome; cases hsome
    | some o => exact ⟨h.hp.lt_box hl, (h.hp.boxMine i o hl).2.2⟩
  · rintro e a w ⟨rfl, hq⟩
    exact hq
end
end Go.Proofs.YthaamalgeieijabDoor
