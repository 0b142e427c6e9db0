/- The symbolic executor: stores, new boxes, loads of memory, calls, guards, regions, loops; sound. No condition. -/
import Derived.Test.YthaamalgeieijabDoorSm
set_option linter.unusedVariables false
set_option linter.unusedSimpArgs false
namespace Go.Proofs.YthaamalgeieijabDoor
open Go.RowKit

section
variable {P : Program} {Z : Zn} {w0 w : World} {st : St} {a : Act} {ε : Env}

/-! ### Guards -/
def litB : Bool → Bool → Bool
  | true, u => u
  | false, u => !u
def andG : List (Nat × Bool) → Bool → Bool → Bool
  | [], x, _ => x
  | _ :: _, x, g => x && g
theorem litB_iff (b u : Bool) : litB b u = true ↔ u = b := by cases b <;> cases u <;> simp [litB]
theorem andG_iff {c : List (Nat × Bool)} {x g : Bool} (h : c = [] → g = true) : andG c x g = true ↔ x = true ∧ g = true := by
  cases c with
  | nil => simp [andG, h rfl]
  | cons p l => simp [andG]
def condOf (st : St) : List (Nat × Bool) → Option Bool
  | [] => some true
  | (t, b) :: rest => match st.slot t with
    | ⟨c, x⟩ => if c = rest then match bOf x, condOf st rest with
        | some u, some g => some (andG rest (litB b u) g)
        | _, _ => none
      else none
theorem Inv.slotDen (h : Inv Z w0 st a w ε) {t : Nat} {v : Value} (ht : a.tmps[t]? = some v) : (st.slot t).den ε a.tmps v := by
  have hlt : t < st.tmps.length := by rw [← h.size]; exact (Array.getElem?_eq_some_iff.1 ht).1
  have hs : st.tmps[t]? = some st.tmps[t] := List.getElem?_eq_getElem hlt
  have : st.slot t = st.tmps[t] := by simp [St.slot, List.getD_eq_getElem?_getD, hs]
  rw [this]
  exact h.tm t _ v hs ht
theorem Inv.inRange (h : Inv Z w0 st a w ε) {t : Nat} {x : AV} {c : List (Nat × Bool)} {b : Bool} (hs : st.slot t = ⟨c, x⟩) (hb : bOf x = some b) : ∃ v, a.tmps[t]? = some v := by
  have hlt : t < st.tmps.length := by
    rcases Nat.lt_or_ge t st.tmps.length with hlt | hge
    · exact hlt
    · have hn : st.slot t = SV.none := by simp [St.slot, List.getD_eq_getElem?_getD, List.getElem?_eq_none hge]
      rw [hs] at hn
      simp only [SV.none, SV.mk.injEq] at hn
      rw [hn.2] at hb
      cases hb
  exact ⟨_, Array.getElem?_eq_getElem (by rw [h.size]; exact hlt)⟩
theorem condOf_spec (h : Inv Z w0 st a w ε) : ∀ {ch : List (Nat × Bool)} {g : Bool}, condOf st ch = some g → (Holds a ch ↔ g = true)
  | [], g, hg => by simp [condOf] at hg; subst hg; exact ⟨fun _ => rfl, fun _ => HoldsT.nil _⟩
  | (t, b) :: rest, g, hg => by
    unfold condOf at hg
    cases hs : st.slot t with
    | mk c x =>
    rw [hs] at hg
    dsimp only at hg
    split at hg
    · rename_i hc
      subst hc
      split at hg
      · rename_i u g' hu hg'
        injection hg with hg
        subst hg
        have ih := condOf_spec h hg'
        have hnil : c = [] → g' = true := fun e => by subst e; simp [condOf] at hg'; exact hg'
        rw [andG_iff hnil, litB_iff]
        obtain ⟨v, hv⟩ := h.inRange hs hu
        have hd := h.slotDen hv
        rw [hs] at hd
        constructor
        · intro hH
          have hrest : Holds a c := fun q hq => hH q (List.mem_cons_of_mem _ hq)
          have hv' := bOf_spec hu (hd.1 hrest)
          have ht : a.tmps[t]? = some (.bool b) := hH (t, b) (by simp)
          rw [hv] at ht
          injection ht with ht
          rw [hv'] at ht
          injection ht with ht
          exact ⟨ht, ih.1 hrest⟩
        · intro hg
          have hrest := ih.2 hg.2
          have hv' := bOf_spec hu (hd.1 hrest)
          have hub : u = b := hg.1
          intro q hq
          rcases List.mem_cons.1 hq with rfl | hq
          · rw [hv, hv', hub]
          · exact hrest q hq
      · cases hg
    · cases hg
/-- On a way where the chain holds. -/
def fixSlot (ch : List (Nat × Bool)) (i : Nat) (s : SV) : SV := match ch.lookup i with
  | some b => ⟨[], .cb b⟩
  | none => if s.ch.all (fun q => ch.contains q) then ⟨[], s.x⟩ else s
def fixAll (ch : List (Nat × Bool)) : Nat → List SV → List SV
  | _, [] => []
  | i, s :: l => fixSlot ch i s :: fixAll ch (i + 1) l
def St.fix (st : St) (ch : List (Nat × Bool)) : St := { st with tmps := fixAll ch 0 st.tmps }
theorem fixAll_length (ch : List (Nat × Bool)) : ∀ (i : Nat) (l : List SV), (fixAll ch i l).length = l.length
  | _, [] => rfl
  | i, s :: l => by simp [fixAll, fixAll_length ch (i + 1) l]
theorem fixAll_get (ch : List (Nat × Bool)) : ∀ (i j : Nat) (l : List SV), (fixAll ch i l)[j]? = (l[j]?).map (fixSlot ch (i + j))
  | _, _, [] => by simp [fixAll]
  | i, 0, s :: l => by simp [fixAll]
  | i, j + 1, s :: l => by
    simp only [fixAll, List.getElem?_cons_succ]
    rw [fixAll_get ch (i + 1) j l, show i + 1 + j = i + (j + 1) by omega]
theorem lookup_mem {α : Type} : ∀ {l : List (Nat × α)} {i : Nat} {b : α}, l.lookup i = some b → (i, b) ∈ l
  | (j, c) :: l, i, b, h => by
    rw [List.lookup_cons] at h
    by_cases hij : i = j
    · subst hij; simp at h; subst h; simp
    · have : (i == j) = false := by simpa using hij
      rw [this] at h
      exact List.mem_cons_of_mem _ (lookup_mem h)
theorem Inv.fix (h : Inv Z w0 st a w ε) {ch : List (Nat × Bool)} (hc : Holds a ch) : Inv Z w0 (st.fix ch) a w ε := by
  refine ⟨h.defers, by simp [St.fix, fixAll_length, h.size], fun i x y hx hy => ?_, h.hp⟩
  simp only [St.fix, fixAll_get, Nat.zero_add] at hx
  cases hs : st.tmps[i]? with
  | none => rw [hs] at hx; cases hx
  | some s =>
    rw [hs] at hx
    injection hx with hx
    subst hx
    have hd := h.tm i s y hs hy
    unfold fixSlot
    split
    · rename_i b hb
      refine SV.den_free ?_
      have := hc (i, b) (lookup_mem hb)
      rw [hy] at this
      injection this
    · split
      · rename_i hall
        refine SV.den_free (hd.1 fun q hq => hc q ?_)
        simpa using List.all_eq_true.1 hall q hq
      · exact hd

def SV.known (t : Nat) (u : Bool) (s : SV) : SV := match s.ch with
  | [] => s
  | c :: l => if (c :: l).any (fun q => q == (t, !u)) then ⟨[], .p (.v undef)⟩ else ⟨(c :: l).filter (fun q => !(q == (t, u))), s.x⟩
def knownAll (t : Nat) (u : Bool) : Nat → List SV → List SV
  | _, [] => []
  | i, s :: l => (if i = t then ⟨[], .cb u⟩ else s.known t u) :: knownAll t u (i + 1) l
def St.known (st : St) (t : Nat) (u : Bool) : St := { st with tmps := knownAll t u 0 st.tmps }
theorem knownAll_length (t : Nat) (u : Bool) : ∀ (i : Nat) (l : List SV), (knownAll t u i l).length = l.length
  | _, [] => rfl
  | i, s :: l => by simp [knownAll, knownAll_length t u (i + 1) l]
theorem knownAll_get (t : Nat) (u : Bool) : ∀ (i j : Nat) (l : List SV), (knownAll t u i l)[j]? = (l[j]?).map fun s => if i + j = t then ⟨[], .cb u⟩ else s.known t u
  | _, _, [] => by simp [knownAll]
  | i, 0, s :: l => by simp [knownAll]
  | i, j + 1, s :: l => by
    simp only [knownAll, List.getElem?_cons_succ]
    rw [knownAll_get t u (i + 1) j l, show i + 1 + j = i + (j + 1) by omega]
theorem Inv.known (h : Inv Z w0 st a w ε) {t : Nat} {u : Bool} (ht : a.tmps[t]? = some (.bool u)) : Inv Z w0 (st.known t u) a w ε := by
  refine ⟨h.defers, by simp [St.known, knownAll_length, h.size], fun i x y hx hy => ?_, h.hp⟩
  simp only [St.known, knownAll_get, Nat.zero_add] at hx
  cases hs : st.tmps[i]? with
  | none => rw [hs] at hx; cases hx
  | some s =>
    rw [hs] at hx
    injection hx with hx
    subst hx
    have hd := h.tm i s y hs hy
    split
    · rename_i hi
      subst hi
      rw [ht] at hy
      injection hy with hy
      exact SV.den_free hy.symm
    · obtain ⟨ch, x⟩ := s
      cases ch with
      | nil => exact hd
      | cons c l =>
        simp only [SV.known]
        split
        · rename_i hany
          refine SV.den_free (hd.2 fun hH => ?_)
          obtain ⟨q, hq, he⟩ := List.any_eq_true.1 hany
          have he' : q = (t, !u) := by simpa using he
          have := hH q hq
          rw [he', ht] at this
          injection this with this
          injection this with this
          cases u <;> cases this
        · have hiff : HoldsT a.tmps ((c :: l).filter (fun q => !(q == (t, u)))) ↔ HoldsT a.tmps (c :: l) := by
            constructor
            · intro hH q hq
              by_cases hqt : q = (t, u)
              · rw [hqt]; exact ht
              · exact hH q (List.mem_filter.2 ⟨hq, by simpa using hqt⟩)
            · exact fun hH q hq => hH q (List.mem_filter.1 hq).1
          exact ⟨fun hH => hd.1 (hiff.1 hH), fun hH => hd.2 fun h' => hH (hiff.2 h')⟩
/-! ### One operation -/
def isAggV : Value → Bool
  | .agg _ => true
  | _ => false
/-- An operation that is run, no guard on it: what is not a mere computation. -/
def doEff (P : Program) (o : Oper) (k : St → Prop) (st : St) : Prop := match o.op with
  | .box t x => match o.dst, (st.get [] x).cellsP with
    | some d, some cs => match st.esc.contains d with
      | true => doMore P o k st
      | false => k ((st.newBox d t cs).put d ⟨[], .p (.own d 0)⟩)
    | _, _ => STUCK 1
  | .alloc t => match o.dst, (P.info? t).bind (·.zero) with
    | some d, some z => match st.esc.contains d with
      | true => doMore P o k st
      | false => k ((st.newBox d t (z.cells.toList.map PV.v)).put d ⟨[], .p (.own d 0)⟩)
    | _, _ => STUCK 2
  | .store t x y => match st.get [] x, (st.get [] y).cellsP, szOf P t with
    | .p (.own i o'), some cs, some n => match st.boxes.lookup i with
      | some (_, old) => if cs.length = n ∧ cs.all PV.one = true ∧ o' + n ≤ old.length then k ({ st with boxes := setBox i (setCells' old o' cs) st.boxes }.putO o.dst ⟨[], .p (.v undef)⟩) else STUCK 3
      | none => STUCK 4
    | _, _, _ => doMore P o k st
  | .load t x => match st.get [] x with
    | .ptr A j => EXS (shOf P t) fun v => if aggOf P t = some (isAggV v) ∧ szOf P t = some v.cells.size then NEED (ReadsAt st.mem A j v) (k (st.putO o.dst ⟨[], .p (.v v)⟩)) else STUCK 11
    | .p (.v (.pointer A)) => EXS (shOf P t) fun v => if aggOf P t = some (isAggV v) ∧ szOf P t = some v.cells.size then NEED (ReadsAt st.mem A 0 v) (k (st.putO o.dst ⟨[], .p (.v v)⟩)) else STUCK 11
    | _ => STUCK 6
  | .call { callee := .value (.func f), args := args, argTypes := _ } => match parts st args.toList with
    | some vs => match P.funcs[f]? with
      | some fn => if fn.body.isNone || fn.name == "runtime.NumGoroutine" then STUCK 7 else
        CALL P f vs.toArray st.M st.L fun v M' L' => EXR (rshOf P f) fun v' => NEED (v = v') (k ({ st with M := M', L := L' }.putO o.dst ⟨[], .p (.v v')⟩))
      | none => STUCK 8
    | none => STUCK 9
  | _ => doMore P o k st
theorem run_loadMem {M : Mem} (hk : Knows M w) {t : TypeId} {A : Option Addr} {j : Nat} {v : Value} (hr : ReadsAt M A j v) (ha : aggOf P t = some (isAggV v)) (hs : szOf P t = some v.cells.size) :
    ∃ ad, A = some ad ∧ (Instr.loadAt t (.pointer (some (ad.add j)))).run P w = .ok v w := by
  obtain ⟨ad, rfl, hc⟩ := hr
  refine ⟨ad, rfl, ?_⟩
  by_cases hv : ∃ cs, v = .agg cs
  · obtain ⟨cs, rfl⟩ := hv
    have hrun := run_loadCells_list (P := P) w (ad.add j) cs.toList (fun i u hu => by
      rw [add_add']
      exact mcell_world hk (hc i u (by simpa [Value.cells] using hu)))
    simp only [Array.length_toList, Array.toArray_toList] at hrun
    have ha' : aggOf P t = some true := ha
    simp [Instr.loadAt, Instr.sureAddr, loadVar, run_aggOf ha', run_szOf hs, Value.cells, hrun]
  · have ha' : aggOf P t = some false := by
      rw [ha]; cases v <;> first | rfl | exact absurd ⟨_, rfl⟩ hv
    have hcell : w.cell? (ad.add j) = some v := by
      have := mcell_world hk (hc 0 v (by cases v <;> first | rfl | exact absurd ⟨_, rfl⟩ hv))
      simpa using this
    simp [Instr.loadAt, Instr.sureAddr, loadVar, run_aggOf ha', hcell]
theorem doEff_sound {o : Oper} {k : St → Prop} {K : Act → World → Prop} {Q : Exit → Act → World → Prop} (h : Inv Z w0 st a w ε) (he : doEff P o k st)
    (hK : ∀ st' a' w' ε', Inv Z w0 st' a' w' ε' → st.M.le st'.M → Stp o st w ε st' w' ε' → k st' → K a' w') : o.wp P a w K Q := by
  have hnil : Holds a [] := HoldsT.nil _
  unfold doEff at he
  split at he
  all_goals rename_i hop
  · rename_i t x
    split at he
    · rename_i d cs hd hcs
      split at he
      · exact doMore_sound h he hK
      obtain ⟨hs, hv⟩ := AV.cellsP_spec hcs (h.get hnil x)
      have hrun : (execOp a.eval o).run P w = .ok (.value (.pointer (some ⟨w.heap.size, 0, none⟩))) (w.alloc (.cells (a.eval x).cells t)) := by
        simp [execOp, hop, Instr.box, newVar, newRow, newObj]
        rfl
      unfold Oper.wp
      rw [hrun, Oper.upon_value, hd]
      exact hK _ _ _ _ (h.newBox d t cs _ hs hv) (Mem.le_refl _) ⟨fun i hi => by simp only [Env.setBx]; rw [if_neg (fun e => hi (by rw [hd, e]))], fun g hg _ => .inr (Below.heap_alloc _ _ _ hg), fun g _ hg => hg⟩ he
    · cases he
  · rename_i t
    split at he
    · rename_i d z hd hz
      split at he
      · exact doMore_sound h he hK
      have hi : ∃ i, P.info? t = some i ∧ i.zero = some z := by
        cases hx : P.info? t with
        | none => rw [hx] at hz; cases hz
        | some i => rw [hx] at hz; exact ⟨i, rfl, hz⟩
      obtain ⟨i, hi, hz'⟩ := hi
      have hrun : (execOp a.eval o).run P w = .ok (.value (.pointer (some ⟨w.heap.size, 0, none⟩))) (w.alloc (.cells z.cells t)) := by
        simp [execOp, hop, Instr.alloc, zeroValue, typeInfo, hi, hz', newVar, newRow, newObj]
        rfl
      unfold Oper.wp
      rw [hrun, Oper.upon_value, hd]
      refine hK _ _ _ _ (h.newBox d t _ z.cells (by simp) (fun j c u hj hu => ?_)) (Mem.le_refl _) ⟨fun i hi => by simp only [Env.setBx]; rw [if_neg (fun e => hi (by rw [hd, e]))], fun g hg _ => .inr (Below.heap_alloc _ _ _ hg), fun g _ hg => hg⟩ he
      rw [List.getElem?_map] at hj
      have : z.cells.toList[j]? = some u := by simpa using hu
      rw [this] at hj
      injection hj with hj
      subst hj
      rfl
    · cases he
  · rename_i t x y
    split at he
    · rename_i i o' cs n hx hcs hn
      split at he
      · rename_i bt old hb
        split at he
        · rename_i hc
          obtain ⟨hl, hone, hle⟩ := hc
          obtain ⟨hs, hv⟩ := AV.cellsP_spec hcs (h.get hnil y)
          have hax := h.get hnil x
          rw [hx] at hax
          obtain ⟨vs, hh, hvs, hvc⟩ := h.hp.box i bt old hb
          have hlen : (a.eval y).cells.toList.length = n := by simp [hs, hl]
          have hst := run_storeCells_at (P := P) (ε.bx i) o' bt (a.eval y).cells.toList 0 vs w hh (by simp only [hlen]; omega) (fun u hu => by
            obtain ⟨j, hj⟩ := List.getElem?_of_mem hu
            have hjl : j < cs.length := by have := (List.getElem?_eq_some_iff.1 hj).1; omega
            exact PV.one_spec (ε := ε) (List.all_eq_true.1 hone cs[j] (List.getElem_mem hjl)) (hv j cs[j] u (List.getElem?_eq_getElem hjl) (by simpa using hj)))
          have hrun : (execOp a.eval o).run P w = .ok .skip (w.setRow (ε.bx i) (vs.toList.take o' ++ (a.eval y).cells.toList ++ vs.toList.drop (o' + n)).toArray) := by
            simp only [Nat.add_zero, hlen] at hst
            simp [execOp, hop, show a.eval x = _ from hax, Instr.storeAt, Instr.sureAddr, storeVar, run_szOf hn, hs, hl, hst]
          unfold Oper.wp
          rw [hrun, Oper.upon_skip]
          refine hK _ _ _ _ (Inv.putO (st := { st with boxes := setBox i (setCells' old o' cs) st.boxes }) ⟨h.defers, h.size, h.tm, h.hp.setBox i bt old (setCells' old o' cs) hb _ ?_ ?_⟩ o.dst ⟨[], .p (.v undef)⟩ undef (fun tm => SV.den_free rfl)) (putO_le { st with boxes := setBox i (setCells' old o' cs) st.boxes } _ _) ⟨fun _ _ => rfl, fun _ _ _ => .inl ⟨_, _, _, hop⟩, fun g _ hg => by rw [putO_L]; exact hg⟩ he
          · simp [setCells', hs, hl, hvs]
          · intro j c u hj hu
            simp only [setCells', List.getElem?_append, List.length_append, List.length_take] at hj
            simp only [List.getElem?_toArray, List.getElem?_append, List.length_append, List.length_take, Array.length_toList, hvs, hs, hl] at hu
            split at hj
            · rename_i h1
              rw [if_pos (by omega)] at hu
              split at hj
              · rename_i h2
                rw [if_pos (by omega)] at hu
                rw [List.getElem?_take] at hj hu
                split at hj
                · rename_i h3
                  rw [if_pos h3] at hu
                  exact hvc j c u hj (by simpa using hu)
                · cases hj
              · rename_i h2
                rw [if_neg (by omega)] at hu
                exact hv _ c u hj (by simpa using hu)
            · rename_i h1
              rw [if_neg (by omega)] at hu
              rw [List.getElem?_drop] at hj hu
              rw [hl] at hj
              exact hvc _ c u hj (by simpa using hu)
        · cases he
      · cases he
    · exact doMore_sound h he hK
  · rename_i t x
    split at he
    · rename_i A j hx
      obtain ⟨v, hv⟩ := EXS_spec he
      split at hv
      case isFalse => cases hv
      rename_i hif
      obtain ⟨hr, h2⟩ := hv
      obtain ⟨ha, hs⟩ := hif
      have hax := h.get hnil x
      rw [hx] at hax
      obtain ⟨ad, rfl, hy⟩ := hax
      obtain ⟨ad', e, hrun⟩ := run_loadMem (P := P) h.mem hr ha hs
      injection e with e
      subst e
      unfold Oper.wp
      rw [show (execOp a.eval o).run P w = .ok (.value v) w by simp [execOp, hop, hy, hrun], Oper.upon_value]
      exact hK _ _ _ _ (h.putO o.dst ⟨[], .p (.v v)⟩ v (fun tm => SV.den_free rfl)) (putO_le _ _ _) (Stp.same (putO_L _ _ _)) h2
    · rename_i A hx
      obtain ⟨v, hv⟩ := EXS_spec he
      split at hv
      case isFalse => cases hv
      rename_i hif
      obtain ⟨hr, h2⟩ := hv
      obtain ⟨ha, hs⟩ := hif
      have hax := h.get hnil x
      rw [hx] at hax
      obtain ⟨ad, e, hrun⟩ := run_loadMem (P := P) h.mem hr ha hs
      subst e
      have hy : a.eval x = .pointer (some ad) := hax
      have had : ad.add 0 = ad := by simp [Addr.add]
      rw [had] at hrun
      unfold Oper.wp
      rw [show (execOp a.eval o).run P w = .ok (.value v) w by simp [execOp, hop, hy, hrun], Oper.upon_value]
      exact hK _ _ _ _ (h.putO o.dst ⟨[], .p (.v v)⟩ v (fun tm => SV.den_free rfl)) (putO_le _ _ _) (Stp.same (putO_L _ _ _)) h2
    · cases he
  · rename_i f args ts
    split at he
    · rename_i vs hvs
      split at he
      · rename_i fn hf
        split at he
        · cases he
        · rename_i hbody
          obtain ⟨Post, hspec, hnext⟩ := he
          have hargs : args.map a.eval = vs.toArray := by
            have := parts_spec h hvs
            rw [← this]
            apply Array.ext'
            simp
          have hb1 : fn.body ≠ none := fun e => hbody (by simp [e])
          have hb2 : fn.name ≠ "runtime.NumGoroutine" := fun e => hbody (by simp [e])
          have hrun : (execOp a.eval o).run P w = .ok (.enter f vs.toArray) w := by
            simp [execOp, hop, resolve, invoke, Deferred.ofValue, Act.eval, callFunc, hf, hb1, hb2, hargs]
          unfold Oper.wp
          rw [hrun, Oper.upon_enter]
          refine (hspec w h.hp.know h.hp.lin h.hp.disj).mono ?_
          rintro e w' ⟨v, M', L', rfl, hb, hp⟩
          obtain ⟨v', h1, h2⟩ := EXR_spec (hnext v M' L' hb.le hp)
          subst h1
          exact hK _ _ _ _ (Inv.putO (st := { st with M := M', L := L' }) ⟨h.defers, h.size, h.tm, h.hp.step hb⟩ o.dst ⟨[], .p (.v v)⟩ v (fun tm => SV.den_free rfl)) (by rw [putO_M]; exact hb.le) (Stp.after (by rw [putO_M, putO_L]; exact hb)) h2
      · cases he
    · cases he
  · exact doMore_sound h he hK

/-! ### An operation with its guard -/
def St.put' (st : St) (o : Oper) (ch : List (Nat × Bool)) (r : AV) (k : St → Prop) : Prop := match o.dst with
  | some d => if ch.all (fun q => q.1 != d) then k (st.put d ⟨ch, r⟩) else STUCK 20
  | none => STUCK 21
/-- A load of memory under a guard. -/
def gLoad (P : Program) (st : St) (o : Oper) (ch : List (Nat × Bool)) (g : Bool) (t : TypeId) (x : Operand) (k : St → Prop) : Prop := match ptrOf (st.get ch x) with
  | some (A, j) => EXS (shOf P t) fun v => if aggOf P t = some (isAggV v) ∧ szOf P t = some v.cells.size then NEED (g = true → ReadsAt st.mem A j v) (st.put' o ch (.p (.v v)) k) else STUCK 12
  | _ => STUCK 22
def skipOp (st : St) (o : Oper) : St := st.putO o.dst ⟨[], .p (.v undef)⟩
def freeOp (P : Program) (o : Oper) (k : St → Prop) (st : St) : Prop := match evPure P st [] o.op with
  | some (ns, r) => match o.dst with
    | some d => needs none ns (k (st.put d ⟨[], r⟩))
    | none => STUCK 23
  | none => doEff P o k st
def lastT : Nat × Bool → List (Nat × Bool) → Nat
  | c, [] => c.1
  | _, c :: l => lastT c l
/-- An operation under a guard, way by way. -/
def brOp (P : Program) (o : Oper) (d : Nat) (b : Bool) (k : St → Prop) : Nat → St → Prop
  | 0, _ => STUCK 26
  | n + 1, st => match st.slot d with
    | ⟨[], .cb u⟩ => if u = b then freeOp P o k st else k (skipOp st o)
    | ⟨[], .p (.v (.tuple _))⟩ => k (skipOp st o)
    | ⟨[], x⟩ => match bOf x with
      | some u => IFF u (brOp P o d b k n (st.known d true)) (brOp P o d b k n (st.known d false))
      | none => STUCK 27
    | ⟨c :: l, _⟩ => match st.slot (lastT c l) with
      | ⟨[], x⟩ => match bOf x with
        | some u => IFF u (brOp P o d b k n (st.known (lastT c l) true)) (brOp P o d b k n (st.known (lastT c l) false))
        | none => STUCK 28
      | _ => STUCK 29
def doOp (P : Program) (ops : Array Oper) (o : Oper) (k : St → Prop) (st : St) : Prop := match o.guard with
  | none => freeOp P o k st
  | some (j, b) => match (ops[j]?).bind (·.dst) with
    | none => STUCK 24
    | some d => match st.slot d with
      | ⟨[], .cb u⟩ => if u = b then freeOp P o k st else k (skipOp st o)
      | ⟨[], .p (.v (.tuple _))⟩ => k (skipOp st o)
      | ⟨c, _⟩ => match condOf st ((d, b) :: c) with
        | none => STUCK 25
        | some g => match evPure P st ((d, b) :: c) o.op with
          | some (ns, r) => needs (some g) ns (st.put' o ((d, b) :: c) r k)
          | none => match o.op with
            | .load t x => gLoad P st o ((d, b) :: c) g t x k
            | _ => brOp P o d b k 6 st
theorem St.put'_spec {o : Oper} {ch : List (Nat × Bool)} {r : AV} {k : St → Prop} (h : st.put' o ch r k) : ∃ d, o.dst = some d ∧ (∀ q ∈ ch, q.1 ≠ d) ∧ k (st.put d ⟨ch, r⟩) := by
  unfold St.put' at h
  split at h
  · rename_i d hd
    split at h
    · rename_i hall
      exact ⟨d, hd, fun q hq => by simpa using List.all_eq_true.1 hall q hq, h⟩
    · cases h
  · cases h
theorem skip_inv (h : Inv Z w0 st a w ε) (o : Oper) : Inv Z w0 (skipOp st o) (a.put o.dst undef) w ε := h.putO o.dst ⟨[], .p (.v undef)⟩ undef (fun _ => SV.den_free rfl)
theorem freeOp_sound {o : Oper} {k : St → Prop} {K : Act → World → Prop} {Q : Exit → Act → World → Prop} (h : Inv Z w0 st a w ε) (he : freeOp P o k st)
    (hK : ∀ st' a' w' ε', Inv Z w0 st' a' w' ε' → st.M.le st'.M → Stp o st w ε st' w' ε' → k st' → K a' w') : o.wp P a w K Q := by
  unfold freeOp at he
  split at he
  · rename_i ns r hev
    split at he
    · rename_i d hd
      obtain ⟨hk, hn⟩ := needs_spec he
      obtain ⟨y, hy, hden⟩ := evPure_run h (HoldsT.nil _) hev (hn (fun b hb => by cases hb))
      unfold Oper.wp
      rw [hy w (fun _ _ _ _ _ _ => rfl), Oper.upon_value, hd]
      exact hK _ _ _ _ (h.put d ⟨[], r⟩ y (SV.den_free hden)) (Mem.le_refl _) (Stp.same rfl) hk
    · cases he
  · exact doEff_sound h he hK
theorem brOp_sound {ops : Array Oper} {i : Nat} {o : Oper} (ho : ops[i]? = some o) {d : Nat} {b : Bool} {k : St → Prop} {K : Act → World → Prop} {Q : Exit → Act → World → Prop}
    (hwant : ∀ a : Act, Region.wanted o (yielded ops a.tmps) = true ↔ a.tmps[d]? = some (.bool b)) : ∀ (n : Nat) {st : St} {a : Act} {w : World} {ε : Env}, Inv Z w0 st a w ε → brOp P o d b k n st →
    (∀ st' a' w' ε', Inv Z w0 st' a' w' ε' → st.M.le st'.M → Stp o st w ε st' w' ε' → k st' → K a' w') → wpOp P ops Q i K a w
  | 0, st, a, w, ε, h, he, hK => by cases he
  | n + 1, st, a, w, ε, h, he, hK => by
    have branch : ∀ {t : Nat} {x : AV} {u : Bool}, st.slot t = ⟨[], x⟩ → bOf x = some u → IFF u (brOp P o d b k n (st.known t true)) (brOp P o d b k n (st.known t false)) → wpOp P ops Q i K a w := by
      intro t x u hs hu he
      obtain ⟨v, hv⟩ := h.inRange hs hu
      have hden := h.slotDen hv
      rw [hs] at hden
      have hv' := bOf_spec hu (hden.1 (HoldsT.nil _))
      rw [hv'] at hv
      cases u with
      | true => exact brOp_sound ho hwant n (h.known hv) (he.yes rfl) fun st' a' w' ε' hi hm hs hk => hK st' a' w' ε' hi hm ⟨hs.bx, hs.heap, hs.lin⟩ hk
      | false => exact brOp_sound ho hwant n (h.known hv) (he.no rfl) fun st' a' w' ε' hi hm hs hk => hK st' a' w' ε' hi hm ⟨hs.bx, hs.heap, hs.lin⟩ hk
    unfold brOp at he
    split at he
    · rename_i u hs
      obtain ⟨v, hv⟩ := h.inRange hs (b := u) rfl
      have hden := h.slotDen hv
      rw [hs] at hden
      have hvu : v = .bool u := hden.1 (HoldsT.nil _)
      unfold wpOp
      rw [ho]
      dsimp only
      split at he
      · rename_i hub
        rw [if_pos ((hwant a).2 (by rw [hv, hvu, hub]))]
        exact .inl (freeOp_sound h he hK)
      · rename_i hub
        rw [if_neg (fun hw => hub (by have := (hwant a).1 hw; rw [hv, hvu] at this; injection this with this; injection this))]
        exact hK _ _ _ _ (skip_inv h o) (putO_le _ _ _) (Stp.same (putO_L _ _ _)) he
    · rename_i vs hs
      unfold wpOp
      rw [ho]
      dsimp only
      rw [if_neg (fun hw => by
        have hv := (hwant a).1 hw
        have hden := h.slotDen hv
        rw [hs] at hden
        have : Value.bool b = .tuple vs := hden.1 (HoldsT.nil _)
        cases this)]
      exact hK _ _ _ _ (skip_inv h o) (putO_le _ _ _) (Stp.same (putO_L _ _ _)) he
    · rename_i x hx1 hx2 hs
      split at he
      · rename_i u hu
        exact branch hs hu he
      · cases he
    · rename_i c l x hs
      split at he
      · rename_i x' hs'
        split at he
        · rename_i u hu
          exact branch hs' hu he
        · cases he
      · cases he
/-- As the region runs an operation. -/
theorem doOp_sound {ops : Array Oper} {i : Nat} {o : Oper} (ho : ops[i]? = some o) {k : St → Prop} {K : Act → World → Prop} {Q : Exit → Act → World → Prop} (h : Inv Z w0 st a w ε) (he : doOp P ops o k st)
    (hK : ∀ st' a' w' ε', Inv Z w0 st' a' w' ε' → st.M.le st'.M → Stp o st w ε st' w' ε' → k st' → K a' w') : wpOp P ops Q i K a w := by
  unfold wpOp
  rw [ho]
  dsimp only
  unfold doOp at he
  split at he
  · rename_i hgd
    rw [show Region.wanted o (yielded ops a.tmps) = true by simp [Region.wanted, hgd], if_pos rfl]
    exact .inl (freeOp_sound h he hK)
  · rename_i j b hgd
    split at he
    · cases he
    · rename_i d hd
      have hwantA : ∀ a : Act, Region.wanted o (yielded ops a.tmps) = true ↔ a.tmps[d]? = some (.bool b) := by
        intro a
        simp only [Region.wanted, hgd, yielded, hd, Option.bind_some]
        cases hx : a.tmps[d]? with
        | none => simp
        | some v => cases v <;> simp
      have hwant := hwantA a
      split at he
      · rename_i u hs
        have hlt : ∃ v, a.tmps[d]? = some v := h.inRange hs (b := u) rfl
        obtain ⟨v, hv⟩ := hlt
        have hden := h.slotDen hv
        rw [hs] at hden
        have hvu : v = .bool u := hden.1 (HoldsT.nil _)
        split at he
        · rename_i hub
          rw [if_pos (hwant.2 (by rw [hv, hvu, hub]))]
          exact .inl (freeOp_sound h he hK)
        · rename_i hub
          rw [if_neg (fun hw => hub (by have := hwant.1 hw; rw [hv, hvu] at this; injection this with this; injection this))]
          exact hK _ _ _ _ (skip_inv h o) (putO_le _ _ _) (Stp.same (putO_L _ _ _)) he
      · rename_i vs hs
        rw [if_neg (fun hw => by
          have hv := hwant.1 hw
          have hden := h.slotDen hv
          rw [hs] at hden
          have : Value.bool b = .tuple vs := hden.1 (HoldsT.nil _)
          cases this)]
        exact hK _ _ _ _ (skip_inv h o) (putO_le _ _ _) (Stp.same (putO_L _ _ _)) he
      · rename_i c x hov1 hov2 hs
        have hchain : a.tmps[d]? = some (.bool b) → Holds a ((d, b) :: c) := by
          intro hv
          have hden := h.slotDen hv
          rw [hs] at hden
          have hc : Holds a c := Classical.byContradiction fun hn => by have := hden.2 hn; simp [undef] at this
          intro q hq
          rcases List.mem_cons.1 hq with rfl | hq
          · exact hv
          · exact hc q hq
        split at he
        · cases he
        · rename_i g hg
          have hiff := condOf_spec h hg
          split at he
          · rename_i ns r hev
            obtain ⟨hk, hn⟩ := needs_spec he
            obtain ⟨d', hd', hne, hk⟩ := St.put'_spec hk
            split
            · rename_i hw
              have hH := hchain (hwant.1 hw)
              obtain ⟨y, hy, hden⟩ := evPure_run h hH hev (hn (fun b' hb' => by injection hb' with hb'; rw [← hb']; exact hiff.1 hH))
              refine .inl ?_
              unfold Oper.wp
              rw [hy w (fun _ _ _ _ _ _ => rfl), Oper.upon_value, hd']
              exact hK _ _ _ _ (h.put d' _ y ⟨fun _ => hden, fun hn' => absurd ((HoldsT.set hne).2 hH) hn'⟩) (Mem.le_refl _) (Stp.same rfl) hk
            · rename_i hw
              have hH : ¬ Holds a ((d, b) :: c) := fun hh => hw (hwant.2 (hh (d, b) (by simp)))
              rw [hd']
              exact hK _ _ _ _ (h.put d' _ undef ⟨fun hh => absurd ((HoldsT.set hne).1 hh) hH, fun _ => rfl⟩) (Mem.le_refl _) (Stp.same rfl) hk
          · split at he
            · rename_i t x hop
              unfold gLoad at he
              split at he
              · rename_i A j' hx
                obtain ⟨v, hv⟩ := EXS_spec he
                split at hv
                case isFalse => cases hv
                rename_i hif
                obtain ⟨h1, h2⟩ := hv
                obtain ⟨ha, hsz⟩ := hif
                obtain ⟨d', hd', hne, hk⟩ := St.put'_spec h2
                split
                · rename_i hw
                  have hH := hchain (hwant.1 hw)
                  have hr := h1 (hiff.1 hH)
                  obtain ⟨ad', e, hrun⟩ := run_loadMem (P := P) h.mem hr ha hsz
                  have hy := ptrOf_spec hx (h.get hH x) ad' e
                  refine .inl ?_
                  unfold Oper.wp
                  rw [show (execOp a.eval o).run P w = .ok (.value v) w by simp [execOp, hop, hy, hrun], Oper.upon_value, hd']
                  exact hK _ _ _ _ (h.put d' ⟨(d, b) :: c, .p (.v v)⟩ v ⟨fun _ => rfl, fun hn' => absurd ((HoldsT.set hne).2 hH) hn'⟩) (Mem.le_refl _) (Stp.same rfl) hk
                · rename_i hw
                  have hH : ¬ Holds a ((d, b) :: c) := fun hh => hw (hwant.2 (hh (d, b) (by simp)))
                  rw [hd']
                  exact hK _ _ _ _ (h.put d' _ undef ⟨fun hh => absurd ((HoldsT.set hne).1 hh) hH, fun _ => rfl⟩) (Mem.le_refl _) (Stp.same rfl) hk
              · cases he
            · have := brOp_sound (Q := Q) ho hwantA 6 h he hK
              unfold wpOp at this
              rw [ho] at this
              exact this

/-! ### A region whose order is the text's -/
def forceAV : AV → (AV → Prop) → Prop
  | .p c, f => f (.p c)
  | .cb b, f => f (.cb b)
  | .ptr A k, f => f (.ptr A k)
  | .agg l, f => f (.agg l)
  | .tup l, f => f (.tup l)
def forceSV : SV → (SV → Prop) → Prop
  | ⟨[], x⟩, f => forceAV x fun x => f ⟨[], x⟩
  | ⟨c :: l, x⟩, f => forceAV x fun x => f ⟨c :: l, x⟩
def forceL : List SV → (List SV → Prop) → Prop
  | [], f => f []
  | s :: l, f => forceSV s fun s => forceL l fun l => f (s :: l)
theorem forceAV_eq (x : AV) (f : AV → Prop) : forceAV x f = f x := by cases x <;> rfl
theorem forceSV_eq (x : SV) (f : SV → Prop) : forceSV x f = f x := by
  obtain ⟨c, x⟩ := x
  cases c <;> simp [forceSV, forceAV_eq]
theorem forceL_eq (l : List SV) (f : List SV → Prop) : forceL l f = f l := by
  induction l generalizing f with
  | nil => rfl
  | cons s l ih => simp [forceL, forceSV_eq, ih]
def St.force (st : St) (k : St → Prop) : Prop := forceL st.tmps fun l => k { st with tmps := l }
theorem St.force_eq (st : St) (k : St → Prop) : st.force k = k st := by simp [St.force, forceL_eq]
def execL (P : Program) (ops : Array Oper) (k : St → Prop) : List Nat → St → Prop
  | [], st => k st
  | i :: l, st => match ops[i]? with
    | some o => doOp P ops o (fun st => st.force fun st => execL P ops k l st) st
    | none => STUCK 30
theorem execL_sound {ops : Array Oper} {k : St → Prop} {Q : Exit → Act → World → Prop} : ∀ (l : List Nat) {st : St} {a : Act} {w : World} {ε : Env}, Inv Z w0 st a w ε → execL P ops k l st →
    (∀ st' a w ε, Inv Z w0 st' a w ε → st.M.le st'.M → k st' → Q .normal a w) → wpOps P ops Q l a w
  | [], st, a, w, ε, h, he, hK => hK st a w ε h (Mem.le_refl _) he
  | i :: l, st, a, w, ε, h, he, hK => by
    rw [wpOps_cons]
    simp only [execL] at he
    split at he
    · rename_i o ho
      exact doOp_sound ho h he fun st' a w ε h hM _ he => by
        rw [St.force_eq] at he
        exact execL_sound l h he fun st'' a w ε h hM' hk => hK st'' a w ε h (Mem.le_trans hM hM') hk
    · cases he
end
end Go.Proofs.YthaamalgeieijabDoor
