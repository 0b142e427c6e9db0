/- The symbolic executor, on: operations on own boxes and on memory that does not change. No condition. -/
import Derived.Test.YthaamalgeieijabDoorSx
import Derived.Laws.CopyRow
import Derived.Laws.Tables
import Derived.Laws.Cells
set_option linter.unusedVariables false
set_option linter.unusedSimpArgs false
namespace Go.Proofs.YthaamalgeieijabDoor
open Go.RowKit
section
variable {Z : Zn} {w0 w : World} {st : St} {a : Act} {ε : Env} {boxes : List (Nat × (TypeId × List PV))} {M L : Mem}

theorem Hp.lt_box (h : Hp Z w0 boxes M L w ε) {i : Nat} {o : TypeId × List PV} (hi : boxes.lookup i = some o) : ε.bx i < w.heap.size := by
  obtain ⟨vs, hv, _⟩ := h.box i o.1 o.2 hi
  exact (Array.getElem?_eq_some_iff.1 hv).1
theorem Hp.lt_lin (h : Hp Z w0 boxes M L w ε) {k : Nat} {o : Obj} (hk : L k = some o) : k < w.heap.size := (Array.getElem?_eq_some_iff.1 (h.lin k o hk)).1
theorem Hp.lt_know (h : Hp Z w0 boxes M L w ε) {k : Nat} {o : Obj} (hk : M k = some o) : k < w.heap.size := (Array.getElem?_eq_some_iff.1 (h.know k o hk)).1

def PV.killOwn (d : Nat) : PV → PV
  | .own i o => if i = d then .any else .own i o
  | x => x
def AV.killOwn (d : Nat) : AV → AV
  | .p x => .p (x.killOwn d)
  | .agg l => .agg (l.map (PV.killOwn d))
  | .tup l => .tup (l.map (PV.killOwn d))
  | x => x
def Env.setBx (ε : Env) (d b : Nat) : Env := { ε with bx := fun i => if i = d then b else ε.bx i }
theorem PV.den_killOwn {c : PV} {d b : Nat} {u : Value} (h : c.den ε u) : (c.killOwn d).den (ε.setBx d b) u := by
  cases c with
  | own i o =>
    simp only [PV.killOwn]
    split
    · trivial
    · rename_i hi
      show u = _
      rw [show u = _ from h]
      simp [Env.setBx, hi]
  | _ => exact h
theorem AV.den_killOwn {c : AV} {d b : Nat} {u : Value} (h : c.den ε u) : (c.killOwn d).den (ε.setBx d b) u := by
  cases c with
  | p x => exact PV.den_killOwn h
  | agg l =>
    obtain ⟨cs, e, hl, hc⟩ := h
    refine ⟨cs, e, by simpa using hl, fun j c u hj hu => ?_⟩
    rw [List.getElem?_map] at hj
    cases hx : l[j]? with
    | none => rw [hx] at hj; cases hj
    | some c' => rw [hx] at hj; injection hj with hj; subst hj; exact PV.den_killOwn (hc j c' u hx hu)
  | tup l =>
    obtain ⟨cs, e, hl, hc⟩ := h
    refine ⟨cs, e, by simpa using hl, fun j c u hj hu => ?_⟩
    rw [List.getElem?_map] at hj
    cases hx : l[j]? with
    | none => rw [hx] at hj; cases hj
    | some c' => rw [hx] at hj; injection hj with hj; subst hj; exact PV.den_killOwn (hc j c' u hx hu)
  | cb b => exact h
  | ptr A k => exact h
def SV.killOwn (d : Nat) (s : SV) : SV := ⟨s.ch, s.x.killOwn d⟩
def killBoxes (d : Nat) : List (Nat × (TypeId × List PV)) → List (Nat × (TypeId × List PV))
  | [] => []
  | (i, (t, cs)) :: l => if i = d then killBoxes d l else (i, (t, cs.map (PV.killOwn d))) :: killBoxes d l
theorem lookup_killBoxes (d i : Nat) (l : List (Nat × (TypeId × List PV))) (t : TypeId) (cs : List PV) (h : (killBoxes d l).lookup i = some (t, cs)) : i ≠ d ∧ ∃ cs', l.lookup i = some (t, cs') ∧ cs = cs'.map (PV.killOwn d) := by
  induction l with
  | nil => cases h
  | cons x l ih =>
    obtain ⟨j, t', c'⟩ := x
    unfold killBoxes at h
    split at h
    · rename_i hj
      obtain ⟨hne, cs', h1, h2⟩ := ih h
      refine ⟨hne, cs', ?_, h2⟩
      rw [List.lookup_cons]
      have : (i == j) = false := by rw [hj]; simpa using hne
      rw [this]
      exact h1
    · rename_i hj
      rw [List.lookup_cons] at h ⊢
      by_cases hij : i = j
      · subst hij
        simp only [beq_self_eq_true] at h ⊢
        injection h with h
        injection h with h1 h2
        subst h1 h2
        exact ⟨hj, c', rfl, rfl⟩
      · have : (i == j) = false := by simpa using hij
        rw [this] at h ⊢
        exact ih h
/-- A new own box. -/
def St.newBox (st : St) (d : Nat) (t : TypeId) (cs : List PV) : St :=
  { tmps := st.tmps.map (SV.killOwn d), boxes := (d, (t, cs.map (PV.killOwn d))) :: killBoxes d st.boxes, M := st.M, L := st.L, q := st.q, esc := st.esc }
theorem Hp.newBox (h : Hp Z w0 boxes M L w ε) (d : Nat) (t : TypeId) (cs : List PV) (vs : Array Value) (hs : vs.size = cs.length) (hv : ∀ (j : Nat) (c : PV) (u : Value), cs[j]? = some c → vs[j]? = some u → c.den ε u) :
    Hp Z w0 ((d, (t, cs.map (PV.killOwn d))) :: killBoxes d boxes) M L (w.alloc (.cells vs t)) (ε.setBx d w.heap.size) where
  box := by
    intro i t' cs' hi
    rw [List.lookup_cons] at hi
    by_cases hid : i = d
    · subst hid
      simp only [beq_self_eq_true] at hi
      injection hi with hi
      injection hi with h1 h2
      subst h1 h2
      refine ⟨vs, ?_, by simpa using hs, fun j c u hj hu => ?_⟩
      · simp only [Env.setBx, if_pos]
        exact heap_alloc_new w _
      · rw [List.getElem?_map] at hj
        cases hx : cs[j]? with
        | none => rw [hx] at hj; cases hj
        | some c' => rw [hx] at hj; injection hj with hj; subst hj; exact PV.den_killOwn (hv j c' u hx hu)
    · have : (i == d) = false := by simpa using hid
      rw [this] at hi
      obtain ⟨_, cs'', h1, h2⟩ := lookup_killBoxes d i boxes t' cs' hi
      obtain ⟨vs', hv', hs', hc'⟩ := h.box i t' cs'' h1
      subst h2
      refine ⟨vs', ?_, by simpa using hs', fun j c u hj hu => ?_⟩
      · simp only [Env.setBx, if_neg hid]
        rw [Below.heap_alloc _ _ _ (h.lt_box h1)]
        exact hv'
      · rw [List.getElem?_map] at hj
        cases hx : cs''[j]? with
        | none => rw [hx] at hj; cases hj
        | some c' => rw [hx] at hj; injection hj with hj; subst hj; exact PV.den_killOwn (hc' j c' u hx hu)
  boxMine := by
    intro i o hi
    rw [List.lookup_cons] at hi
    by_cases hid : i = d
    · subst hid
      simp only [Env.setBx, if_pos]
      refine ⟨h.hsize, ?_, ?_⟩
      · cases hM : M w.heap.size with
        | none => rfl
        | some o => exact absurd (h.lt_know hM) (by omega)
      · cases hM : L w.heap.size with
        | none => rfl
        | some o => exact absurd (h.lt_lin hM) (by omega)
    · have : (i == d) = false := by simpa using hid
      rw [this] at hi
      obtain ⟨_, cs'', h1, _⟩ := lookup_killBoxes d i boxes o.1 o.2 hi
      simp only [Env.setBx, if_neg hid]
      exact h.boxMine i _ h1
  boxInj := by
    intro i j o u hi hj he
    rw [List.lookup_cons] at hi hj
    by_cases hid : i = d <;> by_cases hjd : j = d
    · omega
    · exfalso
      have e : (j == d) = false := by simpa using hjd
      rw [e] at hj
      obtain ⟨_, cs'', h1, _⟩ := lookup_killBoxes d j boxes u.1 u.2 hj
      simp only [Env.setBx, if_pos hid, if_neg hjd] at he
      have := h.lt_box h1
      omega
    · exfalso
      have e : (i == d) = false := by simpa using hid
      rw [e] at hi
      obtain ⟨_, cs'', h1, _⟩ := lookup_killBoxes d i boxes o.1 o.2 hi
      simp only [Env.setBx, if_pos hjd, if_neg hid] at he
      have := h.lt_box h1
      omega
    · have e : (i == d) = false := by simpa using hid
      have e' : (j == d) = false := by simpa using hjd
      rw [e] at hi
      rw [e'] at hj
      obtain ⟨_, _, h1, _⟩ := lookup_killBoxes d i boxes o.1 o.2 hi
      obtain ⟨_, _, h2, _⟩ := lookup_killBoxes d j boxes u.1 u.2 hj
      simp only [Env.setBx, if_neg hid, if_neg hjd] at he
      exact h.boxInj i j _ _ h1 h2 he
  lin := fun k o hk => (Below.heap_alloc _ _ _ (h.lt_lin hk)).trans (h.lin k o hk)
  linMine := h.linMine
  know := fun k o hk => (Below.heap_alloc _ _ _ (h.lt_know hk)).trans (h.know k o hk)
  fresh := h.fresh
  os := h.os
  tape := h.tape
  output := h.output
  hsize := by simp; have := h.hsize; omega
  frame := fun k hk hz => (Below.heap_alloc _ _ _ (by have := h.hsize; omega)).trans (h.frame k hk hz)
theorem Inv.newBox (h : Inv Z w0 st a w ε) (d : Nat) (t : TypeId) (cs : List PV) (vs : Array Value) (hs : vs.size = cs.length) (hv : ∀ (j : Nat) (c : PV) (u : Value), cs[j]? = some c → vs[j]? = some u → c.den ε u) :
    Inv Z w0 ((st.newBox d t cs).put d ⟨[], .p (.own d 0)⟩) (a.put (some d) (.pointer (some ⟨w.heap.size, 0, none⟩))) (w.alloc (.cells vs t)) (ε.setBx d w.heap.size) := by
  refine Inv.put (st := st.newBox d t cs) (a := a) ⟨h.defers, by simp [St.newBox, h.size], fun i x y hx hy => ?_, h.hp.newBox d t cs vs hs hv⟩ d _ _ ?_
  · simp only [St.newBox, List.getElem?_map] at hx
    cases hs' : st.tmps[i]? with
    | none => rw [hs'] at hx; cases hx
    | some s => rw [hs'] at hx; injection hx with hx; subst hx; exact ⟨fun hq => AV.den_killOwn ((h.tm i s y hs' hy).1 hq), (h.tm i s y hs' hy).2⟩
  · refine SV.den_free ?_
    show _ = _
    simp [Env.setBx]

/-! ### A store into an own box -/
def setCells' (cs : List PV) (o : Nat) (xs : List PV) : List PV := cs.take o ++ xs ++ cs.drop (o + xs.length)
def setBox (i : Nat) (cs : List PV) : List (Nat × (TypeId × List PV)) → List (Nat × (TypeId × List PV))
  | [] => []
  | (j, (t, c)) :: l => if j = i then (j, (t, cs)) :: l else (j, (t, c)) :: setBox i cs l
theorem lookup_setBox (i j : Nat) (cs : List PV) (l : List (Nat × (TypeId × List PV))) (t : TypeId) (c : List PV) (h : (setBox i cs l).lookup j = some (t, c)) :
    (j = i ∧ c = cs ∧ ∃ c', l.lookup j = some (t, c')) ∨ (j ≠ i ∧ l.lookup j = some (t, c)) := by
  induction l with
  | nil => cases h
  | cons x l ih =>
    obtain ⟨k, t', c'⟩ := x
    unfold setBox at h
    split at h
    · rename_i hk
      subst hk
      rw [List.lookup_cons] at h ⊢
      by_cases hj : j = k
      · subst hj
        simp only [beq_self_eq_true] at h ⊢
        injection h with h
        injection h with h1 h2
        subst h1 h2
        exact .inl ⟨by simp, rfl, _, rfl⟩
      · have : (j == k) = false := by simpa using hj
        rw [this] at h ⊢
        exact .inr ⟨hj, h⟩
    · rename_i hk
      rw [List.lookup_cons] at h ⊢
      by_cases hj : j = k
      · subst hj
        simp only [beq_self_eq_true] at h ⊢
        exact .inr ⟨hk, h⟩
      · have : (j == k) = false := by simpa using hj
        rw [this] at h ⊢
        exact ih h
theorem isSome_setBox (i j : Nat) (cs : List PV) (l : List (Nat × (TypeId × List PV))) {o : TypeId × List PV} (h : (setBox i cs l).lookup j = some o) : ∃ u, l.lookup j = some u := by
  rcases lookup_setBox i j cs l o.1 o.2 h with ⟨_, _, c', h⟩ | ⟨_, h⟩ <;> exact ⟨_, h⟩
theorem Hp.setBox (h : Hp Z w0 boxes M L w ε) (i : Nat) (t : TypeId) (cs cs' : List PV) (hi : boxes.lookup i = some (t, cs)) (vs' : Array Value) (hs : vs'.size = cs'.length)
    (hv : ∀ (j : Nat) (c : PV) (u : Value), cs'[j]? = some c → vs'[j]? = some u → c.den ε u) : Hp Z w0 (setBox i cs' boxes) M L (w.setRow (ε.bx i) vs') ε where
  box := by
    intro j t' c hj
    obtain ⟨vs, hh, _⟩ := h.box i t cs hi
    rcases lookup_setBox i j cs' boxes t' c hj with ⟨rfl, rfl, c', hl⟩ | ⟨hne, hl⟩
    · rw [hi] at hl
      injection hl with hl
      injection hl with hl _
      subst hl
      exact ⟨vs', setRow_heap w _ vs vs' t _ hh, hs, hv⟩
    · obtain ⟨us, hu, hsu, hc⟩ := h.box j t' c hl
      refine ⟨us, ?_, hsu, hc⟩
      rw [setRow_other]
      · exact hu
      · intro e
        exact hne (h.boxInj j i _ _ hl hi e)
  boxMine := by
    intro j o hj
    obtain ⟨u, hu⟩ := isSome_setBox i j cs' boxes hj
    exact h.boxMine j u hu
  boxInj := by
    intro j k o u hj hk he
    obtain ⟨o', ho⟩ := isSome_setBox i j cs' boxes hj
    obtain ⟨u', hu⟩ := isSome_setBox i k cs' boxes hk
    exact h.boxInj j k _ _ ho hu he
  lin := by
    intro k o hk
    rw [setRow_other]
    · exact h.lin k o hk
    · intro e
      subst e
      have := (h.boxMine i _ hi).2.2
      rw [this] at hk
      cases hk
  linMine := h.linMine
  know := by
    intro k o hk
    rw [setRow_other]
    · exact h.know k o hk
    · intro e
      subst e
      have := (h.boxMine i _ hi).2.1
      rw [this] at hk
      cases hk
  fresh := h.fresh
  os := h.os
  tape := h.tape
  output := h.output
  hsize := by simp; exact h.hsize
  frame := by
    intro k hk hz
    rw [setRow_other]
    · exact h.frame k hk hz
    · intro e
      subst e
      have := (h.boxMine i _ hi).1
      omega

/-- The cells of a value, each known. -/
def AV.cellsP : AV → Option (List PV)
  | .p (.v (.agg cs)) => some (cs.toList.map PV.v)
  | .p (.v (.tuple _)) => none
  | .p .any => none
  | .p (.v (.int k n)) => some [.v (.int k n)]
  | .p (.v (.bool b)) => some [.v (.bool b)]
  | .p (.v (.string s)) => some [.v (.string s)]
  | .p (.v (.pointer a)) => some [.v (.pointer a)]
  | .p (.v (.slice a n c)) => some [.v (.slice a n c)]
  | .p (.v (.map r)) => some [.v (.map r)]
  | .p (.v (.func f x y)) => some [.v (.func f x y)]
  | .p (.v _) => none
  | .p (.own i o) => some [.own i o]
  | .cb b => some [.v (.bool b)]
  | .ptr A k => some [.v (.pointer (A.map fun a => a.add k))]
  | .agg l => some l
  | .tup _ => none
theorem AV.cellsP_spec {x : AV} {l : List PV} {y : Value} (h : x.cellsP = some l) (hd : x.den ε y) :
    y.cells.size = l.length ∧ ∀ (j : Nat) (c : PV) (u : Value), l[j]? = some c → y.cells[j]? = some u → c.den ε u := by
  have one : ∀ (z : Value) (c : PV), y = z → z.cells = #[z] → c.den ε z → l = [c] → y.cells.size = l.length ∧ ∀ (j : Nat) (c : PV) (u : Value), l[j]? = some c → y.cells[j]? = some u → c.den ε u := by
    rintro z c rfl hz hc rfl
    refine ⟨by rw [hz]; rfl, fun j c' u hj hu => ?_⟩
    rw [hz] at hu
    cases j with
    | zero => simp at hj hu; subst hj hu; exact hc
    | succ j => simp at hj
  cases x with
  | p x => cases x with
    | v z => cases z <;> simp only [AV.cellsP, Option.some.injEq, reduceCtorEq] at h
             all_goals first
               | (subst h; exact one _ (.v _) hd rfl rfl rfl)
               | (subst h
                  rw [show y = _ from hd]
                  refine ⟨by simp [Value.cells], fun j c u hj hu => ?_⟩
                  simp only [Value.cells] at hu
                  rw [List.getElem?_map] at hj
                  rw [Array.getElem?_toList] at hj
                  rw [hu] at hj
                  injection hj with hj
                  subst hj
                  rfl)
    | any => simp [AV.cellsP] at h
    | own i o => simp only [AV.cellsP, Option.some.injEq] at h; subst h; exact one _ (.own i o) hd rfl rfl rfl
  | cb b => simp only [AV.cellsP, Option.some.injEq] at h; subst h; exact one _ (.v _) hd rfl rfl rfl
  | ptr A k =>
    simp only [AV.cellsP, Option.some.injEq] at h
    subst h
    obtain ⟨a, rfl, hy⟩ := hd
    exact one _ (.v _) hy rfl rfl rfl
  | agg m =>
    simp only [AV.cellsP, Option.some.injEq] at h
    subst h
    obtain ⟨cs, rfl, hl, hc⟩ := hd
    exact ⟨hl, hc⟩
  | tup m => simp [AV.cellsP] at h
/-- Is it a value of one cell? -/
def PV.one : PV → Bool
  | .any => false
  | .v (.agg _) => false
  | .v (.tuple _) => false
  | .v (.int _ _) => true
  | .v (.bool _) => true
  | .v (.string _) => true
  | .v (.pointer _) => true
  | .v (.slice _ _ _) => true
  | .v (.map _) => true
  | .v (.func _ _ _) => true
  | .v _ => false
  | .own _ _ => true
theorem PV.one_spec {c : PV} {u : Value} (h : c.one = true) (hd : c.den ε u) : u.oneCell' = true := by
  cases c with
  | any => cases h
  | v z => rw [show u = z from hd]; cases z <;> first | rfl | cases h
  | own i o => rw [show u = _ from hd]; rfl
end
end Go.Proofs.YthaamalgeieijabDoor
