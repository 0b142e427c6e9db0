/- A symbolic executor for the model's code, proved sound: what a function's text does, said of plain values, own boxes, own rows and memory that does not change any more. No condition. -/
import Derived.Test.YthaamalgeieijabDoorProg
import Derived.WalkKit
import Derived.WalkSpells
import Derived.KernelRfl
set_option linter.unusedVariables false
set_option linter.unusedSimpArgs false
namespace Go.Proofs.YthaamalgeieijabDoor
open Go.RowKit

/-! ### Memory that does not change any more -/
abbrev Mem := Nat → Option Obj
def Mem.le (M M' : Mem) : Prop := ∀ k o, M k = some o → M' k = some o
def Knows (M : Mem) (w : World) : Prop := ∀ k o, M k = some o → w.heap[k]? = some o
def mcell (M : Mem) (a : Addr) : Option Value := match M a.block with
  | some (.cells c _ _) => if a.spot.isSome then none else c[a.off]?
  | _ => none
def Mem.or (M L : Mem) : Mem := fun k => match M k with
  | some o => some o
  | none => L k
theorem Knows.or {M L : Mem} {w : World} (h : Knows M w) (k : Knows L w) : Knows (M.or L) w := by
  intro i o hi
  unfold Mem.or at hi
  split at hi
  · rename_i o' ho
    injection hi with hi
    subst hi
    exact h _ _ ho
  · exact k _ _ hi
theorem Mem.le_or (M L : Mem) : ∀ k o, M k = some o → M.or L k = some o := by
  intro k o h
  unfold Mem.or
  rw [h]
/-- What a call or a step leaves, told of memory. -/
structure After (M L : Mem) (w : World) (M' L' : Mem) (w' : World) : Prop where
  le : M.le M'
  know : Knows M' w'
  lin : Knows L' w'
  disj : ∀ k o, L' k = some o → M' k = none
  newM : ∀ k o, M' k = some o → M k = some o ∨ L k ≠ none ∨ w.heap.size ≤ k
  newL : ∀ k o, L' k = some o → L k ≠ none ∨ w.heap.size ≤ k
  os : w'.os = w.os
  tape : w'.tape = w.tape
  output : w'.output = w.output
  size : w.heap.size ≤ w'.heap.size
  frame : ∀ k, k < w.heap.size → L k = none → w'.heap[k]? = w.heap[k]?
theorem Mem.le_refl (M : Mem) : M.le M := fun _ _ h => h
theorem Mem.le_trans {A B C : Mem} (h : A.le B) (k : B.le C) : A.le C := fun _ _ x => k _ _ (h _ _ x)
theorem mcell_mono {M M' : Mem} (h : M.le M') {a : Addr} {v : Value} (hc : mcell M a = some v) : mcell M' a = some v := by
  unfold mcell at hc ⊢
  split at hc
  · rename_i c t f hM
    rw [h _ _ hM]
    exact hc
  · cases hc
theorem mcell_world {M : Mem} {w : World} (h : Knows M w) {a : Addr} {v : Value} (hc : mcell M a = some v) : w.cell? a = some v := by
  unfold mcell at hc
  unfold World.cell?
  split at hc
  · rename_i c t f hM
    rw [h _ _ hM]
    exact hc
  · cases hc
/-- From a place on memory holds a value. -/
def ReadsAt (M : Mem) (A : Option Addr) (k : Nat) (v : Value) : Prop := ∃ a, A = some a ∧ ∀ j u, v.cells[j]? = some u → mcell M (a.add (k + j)) = some u
theorem ReadsAt.mono {M M' : Mem} (h : M.le M') {A : Option Addr} {k : Nat} {v : Value} (hr : ReadsAt M A k v) : ReadsAt M' A k v := by
  obtain ⟨a, e, hc⟩ := hr
  exact ⟨a, e, fun j u hu => mcell_mono h (hc j u hu)⟩

/-! ### Abstract values -/
inductive PV where
  | any
  | v (x : Value)
  | own (i off : Nat)
inductive AV where
  | p (x : PV)
  | cb (b : Bool)
  | ptr (A : Option Addr) (k : Nat)
  | agg (l : List PV)
  | tup (l : List PV)
/-- What a slot holds, where the slots of the chain hold these booleans. -/
structure SV where
  ch : List (Nat × Bool)
  x : AV
structure St where
  tmps : List SV
  boxes : List (Nat × (TypeId × List PV))
  M : Mem
  L : Mem
  q : Bool
  esc : List Nat
structure Env where
  bx : Nat → Nat

def PV.den (ε : Env) : PV → Value → Prop
  | .any, _ => True
  | .v x, y => y = x
  | .own i off, y => y = .pointer (some ⟨ε.bx i, off, none⟩)
def AV.den (ε : Env) : AV → Value → Prop
  | .p x, y => x.den ε y
  | .cb b, y => y = .bool b
  | .ptr A k, y => ∃ a, A = some a ∧ y = .pointer (some (a.add k))
  | .agg l, y => ∃ cs : Array Value, y = .agg cs ∧ cs.size = l.length ∧ ∀ (j : Nat) (c : PV) (u : Value), l[j]? = some c → cs[j]? = some u → c.den ε u
  | .tup l, y => ∃ cs : Array Value, y = .tuple cs ∧ cs.size = l.length ∧ ∀ (j : Nat) (c : PV) (u : Value), l[j]? = some c → cs[j]? = some u → c.den ε u
def HoldsT (tm : Array Value) (ch : List (Nat × Bool)) : Prop := ∀ q ∈ ch, tm[q.1]? = some (.bool q.2)
def SV.den (ε : Env) (tm : Array Value) (s : SV) (y : Value) : Prop := (HoldsT tm s.ch → s.x.den ε y) ∧ (¬ HoldsT tm s.ch → y = undef)
theorem HoldsT.nil (tm : Array Value) : HoldsT tm [] := fun _ h => absurd h (by simp)
theorem SV.den_free {ε : Env} {tm : Array Value} {x : AV} {y : Value} (h : x.den ε y) : (⟨[], x⟩ : SV).den ε tm y := ⟨fun _ => h, fun hn => absurd (HoldsT.nil tm) hn⟩
theorem HoldsT.set {tm : Array Value} {ch : List (Nat × Bool)} {d : Nat} {v : Value} (hd : ∀ q ∈ ch, q.1 ≠ d) : HoldsT (tm.setIfInBounds d v) ch ↔ HoldsT tm ch := by
  constructor
  · intro h q hq
    have := h q hq
    rwa [Array.getElem?_setIfInBounds_ne (fun e => hd q hq e.symm)] at this
  · intro h q hq
    rw [Array.getElem?_setIfInBounds_ne (fun e => hd q hq e.symm)]
    exact h q hq

def SV.none : SV := ⟨[], .p .any⟩
def SV.drop (d : Nat) (s : SV) : SV := match s.ch with
  | [] => s
  | c :: l => if (c :: l).any (fun q => q.1 == d) then .none else s
def St.put (st : St) (d : Nat) (x : SV) : St := { st with tmps := (st.tmps.map (SV.drop d)).set d x }
def St.putO (st : St) : Option Nat → SV → St
  | some d, x => st.put d x
  | none, _ => st
def St.slot (st : St) (t : Nat) : SV := st.tmps.getD t .none

/-- What a call may write of what was there, and what it knew. -/
structure Zn where
  on : Nat → Prop
  N : Mem
/-- What the abstract state says of the world. -/
structure Hp (Z : Zn) (w0 : World) (boxes : List (Nat × (TypeId × List PV))) (M L : Mem) (w : World) (ε : Env) : Prop where
  box : ∀ i t cs, boxes.lookup i = some (t, cs) → ∃ vs : Array Value, w.heap[ε.bx i]? = some (.cells vs t (0, 0)) ∧ vs.size = cs.length ∧ ∀ (j : Nat) (c : PV) (u : Value), cs[j]? = some c → vs[j]? = some u → c.den ε u
  boxMine : ∀ i o, boxes.lookup i = some o → w0.heap.size ≤ ε.bx i ∧ M (ε.bx i) = none ∧ L (ε.bx i) = none
  boxInj : ∀ i j o u, boxes.lookup i = some o → boxes.lookup j = some u → ε.bx i = ε.bx j → i = j
  lin : Knows L w
  linMine : ∀ k o, L k = some o → (w0.heap.size ≤ k ∨ Z.on k) ∧ M k = none
  know : Knows M w
  fresh : ∀ k o, M k = some o → Z.N k = some o ∨ Z.on k ∨ w0.heap.size ≤ k
  os : w.os = w0.os
  tape : w.tape = w0.tape
  output : w.output = w0.output
  hsize : w0.heap.size ≤ w.heap.size
  frame : ∀ k, k < w0.heap.size → ¬ Z.on k → w.heap[k]? = w0.heap[k]?
/-- The abstract state speaks of this frame and world. -/
structure Inv (Z : Zn) (w0 : World) (st : St) (a : Act) (w : World) (ε : Env) : Prop where
  defers : a.defers = []
  size : a.tmps.size = st.tmps.length
  tm : ∀ (i : Nat) (x : SV) (y : Value), st.tmps[i]? = some x → a.tmps[i]? = some y → x.den ε a.tmps y
  hp : Hp Z w0 st.boxes st.M st.L w ε

section
variable {Z : Zn} {w0 w : World} {st : St} {a : Act} {ε : Env}

theorem SV.den_set {tm : Array Value} {s : SV} {y v : Value} {d : Nat} (h : s.den ε tm y) : (s.drop d).den ε (tm.setIfInBounds d v) y := by
  obtain ⟨ch, x⟩ := s
  cases ch with
  | nil => exact SV.den_free (h.1 (HoldsT.nil _))
  | cons c l =>
    unfold SV.drop
    dsimp only
    split
    · exact SV.den_free trivial
    · rename_i hn
      have hd : ∀ q ∈ c :: l, q.1 ≠ d := fun q hq e => hn (by rw [List.any_eq_true]; exact ⟨q, hq, by simp [e]⟩)
      exact ⟨fun hq => h.1 ((HoldsT.set hd).1 hq), fun hq => h.2 fun hq' => hq ((HoldsT.set hd).2 hq')⟩

theorem Inv.put (h : Inv Z w0 st a w ε) (d : Nat) (x : SV) (v : Value) (hv : x.den ε (a.tmps.setIfInBounds d v) v) : Inv Z w0 (st.put d x) { a with tmps := a.tmps.setIfInBounds d v } w ε where
  defers := h.defers
  size := by simp [St.put, h.size]
  tm := by
    intro i s y hs hy
    simp only [St.put] at hs
    rw [List.getElem?_set] at hs
    rcases Nat.decEq d i with hd | hd
    · rw [if_neg hd] at hs
      rw [Array.getElem?_setIfInBounds_ne hd] at hy
      rw [List.getElem?_map] at hs
      cases hs' : st.tmps[i]? with
      | none => rw [hs'] at hs; cases hs
      | some s' =>
        rw [hs'] at hs
        injection hs with hs
        subst hs
        exact SV.den_set (h.tm i s' y hs' hy)
    · subst hd
      rw [if_pos rfl] at hs
      split at hs
      · injection hs with hs
        subst hs
        rename_i hlt
        rw [Array.getElem?_setIfInBounds_self_of_lt (by simp at hlt; have := h.size; omega)] at hy
        injection hy with hy
        subst hy
        exact hv
      · cases hs
  hp := h.hp

theorem Inv.putO (h : Inv Z w0 st a w ε) (d : Option Nat) (x : SV) (v : Value) (hv : ∀ tm, x.den ε tm v) : Inv Z w0 (st.putO d x) (a.put d v) w ε := by
  cases d with
  | none => exact h
  | some d => exact h.put d x v (hv _)

/-! ### Operands -/
def St.get (st : St) (ch : List (Nat × Bool)) : Operand → AV
  | .tmp t => match st.slot t with | ⟨c, x⟩ => if c.all (fun q => ch.contains q) then x else .p .any
  | .const v => .p (.v v)
  | .global g => .p (.v (.pointer (some ⟨g, 0, none⟩)))
  | .func f => .p (.v (.func (.func f) #[] #[]))
abbrev Holds (a : Act) (ch : List (Nat × Bool)) : Prop := HoldsT a.tmps ch

theorem Inv.get (h : Inv Z w0 st a w ε) {ch : List (Nat × Bool)} (hc : Holds a ch) (x : Operand) : (st.get ch x).den ε (a.eval x) := by
  cases x with
  | const v => rfl
  | global g => rfl
  | func f => rfl
  | tmp t =>
    simp only [St.get, Act.eval]
    cases hs : st.tmps[t]? with
    | none => simp [St.slot, hs, SV.none, List.getD_eq_getElem?_getD]; trivial
    | some s =>
      have hlt : t < st.tmps.length := (List.getElem?_eq_some_iff.1 hs).1
      have hlt' : t < a.tmps.size := by rw [h.size]; exact hlt
      have hsl : st.slot t = s := by simp [St.slot, List.getD_eq_getElem?_getD, hs]
      rw [hsl]
      obtain ⟨c, x⟩ := s
      dsimp only
      split
      · rename_i hall
        have hd := h.tm t ⟨c, x⟩ a.tmps[t] hs (by simp [hlt'])
        refine hd.1 fun q hq => hc q ?_
        have := List.all_eq_true.1 hall q hq
        simpa using this
      · trivial

def PV.toV : PV → Option Value
  | .v x => some x
  | _ => none
def pvs : List PV → Option (List Value)
  | [] => some []
  | c :: l => match c.toV, pvs l with
    | some x, some xs => some (x :: xs)
    | _, _ => none
def AV.toV : AV → Option Value
  | .p (.v x) => some x
  | .cb b => some (.bool b)
  | .ptr A k => some (.pointer (A.map fun a => a.add k))
  | .agg l => match pvs l with
    | some xs => some (.agg xs.toArray)
    | none => none
  | _ => none
theorem pvs_spec {l : List PV} {xs : List Value} (h : pvs l = some xs) : l = xs.map PV.v := by
  induction l generalizing xs with
  | nil => simp [pvs] at h; subst h; rfl
  | cons c l ih =>
    simp only [pvs] at h
    split at h
    · rename_i x xs' hx hxs
      injection h with h
      subst h
      have : c = .v x := by cases c <;> simp [PV.toV] at hx; rw [hx]
      rw [this, ih hxs]
      rfl
    · cases h
theorem AV.toV_spec {x : AV} {y y' : Value} (h : x.toV = some y') (hd : x.den ε y) : y = y' := by
  cases x with
  | p x => cases x <;> simp [AV.toV] at h; subst h; exact hd
  | cb b => simp [AV.toV] at h; subst h; exact hd
  | ptr A k => obtain ⟨a, rfl, rfl⟩ := hd; simp [AV.toV] at h; subst h; rfl
  | agg l =>
    simp only [AV.toV] at h
    split at h
    · rename_i xs hxs
      injection h with h
      subst h
      obtain ⟨cs, rfl, hl, hc⟩ := hd
      have hmap := pvs_spec hxs
      congr 1
      apply Array.ext
      · simp [hl, hmap]
      · intro i h1 h2
        exact hc i (.v (xs[i]'(by simpa using h2))) cs[i] (by rw [hmap]; simp [List.getElem?_eq_getElem (show i < xs.length by simpa using h2)]) (by simp [h1])
    · cases h
  | tup l => simp [AV.toV] at h

/-! ### Operations that only compute -/
def inI64 (n : Int) : Prop := -9223372036854775808 ≤ n ∧ n ≤ 9223372036854775807
theorem wrap_i64_in {n : Int} (h : inI64 n) : IntKind.i64.wrap n = n := by
  obtain ⟨h1, h2⟩ := h
  rw [IntKind.wrap_i64]
  omega
def evInt (op : BinOp) (k : IntKind) (a b : Int) : Option (List Prop × Value) := match op with
  | .add => match k with
    | .i64 => some ([inI64 (a + b)], .int .i64 (a + b))
    | _ => some ([], .int k (k.wrap (a + b)))
  | .sub => match k with
    | .i64 => some ([inI64 (a - b)], .int .i64 (a - b))
    | _ => some ([], .int k (k.wrap (a - b)))
  | .mul => match k with
    | .i64 => some ([inI64 (a * b)], .int .i64 (a * b))
    | _ => some ([], .int k (k.wrap (a * b)))
  | .eql => some ([], .bool (decide (a = b)))
  | .neq => some ([], .bool (!decide (a = b)))
  | .lss => some ([], .bool (decide (a < b)))
  | .leq => some ([], .bool (decide (a ≤ b)))
  | .gtr => some ([], .bool (decide (b < a)))
  | .geq => some ([], .bool (decide (b ≤ a)))
  | _ => none
def evBin (op : BinOp) (x y : Value) : Option (List Prop × Value) := match x, y with
  | .int k a, .int k' b => if k = k' then evInt op k a b else none
  | .string s, .string t => match op with
    | .eql => some ([], .bool (decide (s = t)))
    | .neq => some ([], .bool (!decide (s = t)))
    | .add => some ([s.size + t.size ≤ 9223372036854775807], .string (s ++ t))
    | .lss => some ([], .bool (Op.bytesLess s.toList t.toList))
    | _ => none
  | _, _ => none
theorem toList_beq (s t : ByteArray) : (s.toList == t.toList) = decide (s = t) := by
  by_cases h : s = t
  · subst h; simp
  · rw [decide_eq_false h]
    have : s.toList ≠ t.toList := fun e => h (by
      have hs : s.data.toList = t.data.toList := by simpa [ByteArray.toList_eq] using e
      cases s; cases t; simp at hs; congr)
    simpa using this
theorem evBin_run {P : Program} {op : BinOp} {t : TypeId} {x y r : Value} {ns : List Prop} (h : evBin op x y = some (ns, r)) (hn : ∀ p ∈ ns, p) (w : World) (X Y : Operand) :
    (do eqGuard op t X Y x y; binOp op t x y : Sem Value).run P w = .ok r w := by
  unfold evBin at h
  split at h
  · rename_i k a k' b
    split at h
    · rename_i hk
      subst hk
      unfold evInt at h
      cases op <;> try (cases h; done)
      all_goals (try (cases k <;> (simp at h; obtain ⟨rfl, rfl⟩ := h; simp at hn; simp [eqGuard, binOp, Op.intArith, wrap_i64_in, hn]); done))
      all_goals (simp at h; obtain ⟨rfl, rfl⟩ := h; simp [eqGuard, binOp, Op.intCmp]; try rfl)
    · cases h
  · rename_i s t'
    cases op <;> try (cases h; done)
    all_goals (simp at h; obtain ⟨rfl, rfl⟩ := h; simp at hn; simp [eqGuard, binOp, Op.stringOp, toList_beq])
    all_goals (have := (hn (s.size + t'.size ≤ 9223372036854775807) Iff.rfl); omega)
  · cases h

def szOf (P : Program) (t : TypeId) : Option Nat := (P.info? t).map (·.size)
theorem run_szOf {P : Program} {t : TypeId} {n : Nat} (h : szOf P t = some n) (w : World) : (sizeOf t).run P w = .ok n w := by
  unfold szOf at h
  cases hi : P.info? t with
  | none => rw [hi] at h; cases h
  | some i => rw [hi] at h; simp at h; subst h; simp [sizeOf, typeInfo, hi]
def aggOf (P : Program) (t : TypeId) : Option Bool := (P.underlying t).map fun | .struct _ | .array _ _ => true | _ => false
theorem run_aggOf {P : Program} {t : TypeId} {b : Bool} (h : aggOf P t = some b) (w : World) : (isAgg t).run P w = .ok b w := by
  unfold aggOf at h
  cases hi : P.underlying t with
  | none => rw [hi] at h; cases h
  | some d =>
    rw [hi] at h
    simp only [Option.map_some, Option.some.injEq] at h
    simp only [isAgg, Sem.run_bind, run_underlying hi, Result.andThen_ok]
    cases d <;> simp_all
def fieldOf (P : Program) (s : TypeId) (f : Nat) : Option (Nat × TypeId) := match P.underlying s with
  | some (.struct fs) => match fs[f]? with
    | some fl => match szOf P fl.type with
      | some 0 => none
      | some (n + 1) => some (fl.offset, fl.type)
      | none => none
    | none => none
  | _ => none
theorem own_add (b i off : Nat) : (⟨b, i, none⟩ : Addr).add off = ⟨b, i + off, none⟩ := by unfold Addr.add; split <;> simp_all
theorem add_add' (a : Addr) (i j : Nat) : (a.add i).add j = a.add (i + j) := by
  unfold Addr.add
  by_cases hi : i = 0 <;> by_cases hj : j = 0 <;> simp [hi, hj, Nat.add_assoc]
theorem fieldAt_run {P : Program} {s : TypeId} {f o : Nat} {u : TypeId} (h : fieldOf P s f = some (o, u)) (a : Addr) (w : World) : (Instr.fieldAt s (.pointer (some a)) f).run P w = .ok (.pointer (some (a.add o))) w := by
  unfold fieldOf at h
  split at h
  · rename_i fs hs
    split at h
    · rename_i fl hf
      split at h
      · cases h
      · rename_i n hn
        injection h with h
        injection h with h1 h2
        subst h1
        simp [Instr.fieldAt, run_underlying hs, hf, Instr.sureAddr, fieldPlace, run_szOf hn]
      · cases h
    · cases h
  · cases h
def evFieldAddr (P : Program) (s : TypeId) (f : Nat) (x : AV) : Option (List Prop × AV) := match fieldOf P s f with
  | some (o, _) => match x with
    | .p (.own i k) => some ([], .p (.own i (k + o)))
    | .ptr A k => some ([], .ptr A (k + o))
    | .p (.v (.pointer A)) => some ([A ≠ none], .ptr A o)
    | _ => none
  | none => none
theorem evFieldAddr_run {P : Program} {s : TypeId} {f : Nat} {x r : AV} {ns : List Prop} {ε : Env} {y : Value} (h : evFieldAddr P s f x = some (ns, r)) (hn : ∀ p ∈ ns, p) (hx : x.den ε y) :
    ∃ z, (∀ w, (Instr.fieldAt s y f).run P w = .ok z w) ∧ r.den ε z := by
  unfold evFieldAddr at h
  split at h
  · rename_i o u ho
    split at h
    · injection h with h
      injection h with _ h
      subst h
      rw [show y = _ from hx]
      exact ⟨_, fun w => fieldAt_run ho _ w, by rw [own_add]; rfl⟩
    · injection h with h
      injection h with _ h
      subst h
      obtain ⟨a, rfl, rfl⟩ := hx
      exact ⟨_, fun w => fieldAt_run ho _ w, a, rfl, by rw [add_add']⟩
    · rename_i A
      injection h with h
      injection h with h1 h2
      subst h1 h2
      simp only [List.mem_cons, List.not_mem_nil, or_false, forall_eq] at hn
      cases A with
      | none => exact absurd rfl hn
      | some a =>
        rw [show y = _ from hx]
        exact ⟨_, fun w => fieldAt_run ho _ w, a, rfl, rfl⟩
    · cases h
  · cases h
def elemOf' (P : Program) (t : TypeId) : Option (TypeId × Nat) := match P.underlying t with
  | some (.slice e) => match szOf P e with
    | some n => some (e, n)
    | none => none
  | _ => none
def evIndexAddr (P : Program) (t : TypeId) (x : AV) (ix : AV) : Option (List Prop × AV) := match elemOf' P t with
  | some (_, sz) => match x, ix with
    | .p (.v (.slice A n _)), .p (.v (.int _ i)) => some ([A ≠ none, 0 ≤ i, i < n], .ptr A (i.toNat * sz))
    | _, _ => none
  | none => none
theorem evIndexAddr_run {P : Program} {t : TypeId} {x ix r : AV} {ns : List Prop} {ε : Env} {y z : Value} (h : evIndexAddr P t x ix = some (ns, r)) (hn : ∀ p ∈ ns, p) (hx : x.den ε y) (hz : ix.den ε z) :
    ∃ u, (∀ w, (Instr.indexAt t y z).run P w = .ok u w) ∧ r.den ε u := by
  unfold evIndexAddr at h
  split at h
  · rename_i e sz he
    unfold elemOf' at he
    split at he
    · rename_i e' hu
      split at he
      · rename_i n hsz
        injection he with he
        injection he with h1 h2
        subst h1 h2
        split at h
        · rename_i A m c k i
          injection h with h
          injection h with h3 h4
          subst h3 h4
          simp only [List.mem_cons, List.not_mem_nil, or_false, forall_eq_or_imp, forall_eq] at hn
          obtain ⟨hA, h0, h1⟩ := hn
          rw [show y = _ from hx, show z = _ from hz]
          cases A with
          | none => exact absurd rfl hA
          | some a => exact ⟨.pointer (some (a.add (i.toNat * n))), fun w => by simp [Instr.indexAt, asIntOf, run_underlying hu, run_szOf hsz, h0, h1], a, rfl, rfl⟩
        · cases h
      · cases he
    · cases he
  · cases h
def byteAt (s : ByteArray) (i : Nat) : Nat := if h : i < s.size then (s[i]'h).toNat else 0
theorem byteAt_le (s : ByteArray) (i : Nat) : byteAt s i ≤ 255 := by
  unfold byteAt; split
  · rename_i h; have := (s[i]'h).toNat_lt; omega
  · omega
def evIndex (P : Program) (t : TypeId) (x : AV) (ix : AV) : Option (List Prop × AV) := match P.underlying t with
  | some .string => match x, ix with
    | .p (.v (.string s)), .p (.v (.int _ i)) => some ([0 ≤ i, i < s.size], .p (.v (.int .u8 (byteAt s i.toNat))))
    | _, _ => none
  | _ => none
theorem evIndex_run {P : Program} {t : TypeId} {x ix r : AV} {ns : List Prop} {ε : Env} {y z : Value} (h : evIndex P t x ix = some (ns, r)) (hn : ∀ p ∈ ns, p) (hx : x.den ε y) (hz : ix.den ε z) :
    ∃ u, (∀ w, (Instr.index t y z).run P w = .ok u w) ∧ r.den ε u := by
  unfold evIndex at h
  split at h
  · rename_i hu
    split at h
    · rename_i s k i
      injection h with h
      injection h with h3 h4
      subst h3 h4
      simp only [List.mem_cons, List.not_mem_nil, or_false, forall_eq_or_imp, forall_eq] at hn
      obtain ⟨h0, h1⟩ := hn
      have hlt : i.toNat < s.size := by omega
      rw [show y = _ from hx, show z = _ from hz]
      refine ⟨.int .u8 (byteAt s i.toNat), fun w => ?_, rfl⟩
      simp [Instr.index, asIntOf, run_underlying hu, h0, byteAt, hlt]
    · cases h
  · cases h

def evUn (op : UnOp) (x : Value) : Option (List Prop × Value) := match op, x with
  | .not, .bool b => some ([], .bool (!b))
  | .neg, .int .i64 n => some ([inI64 (-n)], .int .i64 (-n))
  | _, _ => none
theorem evUn_run {P : Program} {op : UnOp} {x r : Value} {ns : List Prop} (h : evUn op x = some (ns, r)) (hn : ∀ p ∈ ns, p) (w : World) : (Op.unary op x).run P w = .ok r w := by
  unfold evUn at h
  split at h
  · injection h with h; injection h with h1 h2; subst h1 h2; simp [Op.unary]
  · injection h with h
    injection h with h1 h2
    subst h1 h2
    simp only [List.mem_cons, List.not_mem_nil, or_false, forall_eq] at hn
    simp [Op.unary, Op.intArith, wrap_i64_in hn]
  · cases h
def evConv (P : Program) (src dst : TypeId) (x : Value) : Option Value := match P.underlying src, P.underlying dst, x with
  | some _, some (.int k), .int _ n => some (.int k (k.wrap n))
  | some .string, some .string, .string s => some (.string s)
  | _, _, _ => none
theorem evConv_run {P : Program} {src dst : TypeId} {x r : Value} (h : evConv P src dst x = some r) (w : World) : (convert src dst x).run P w = .ok r w := by
  unfold evConv at h
  split at h
  · rename_i d k k' n hs hd
    injection h with h; subst h; simp [convert, run_underlying hs, run_underlying hd, Conv.intToInt]
  · rename_i s hs hd
    injection h with h; subst h; simp [convert, run_underlying hs, run_underlying hd]
  · cases h
def evLen (P : Program) (t : TypeId) (x : Value) : Option Value := match P.underlying t, x with
  | some .string, .string s => some (.int .i64 (s.size : Int))
  | some (.slice _), .slice _ n _ => some (.int .i64 (n : Int))
  | some (.array n _), _ => some (.int .i64 (n : Int))
  | _, _ => none
theorem evLen_run {P : Program} {t ty : TypeId} {x r : Value} (h : evLen P t x = some r) (w : World) : (Builtin.len_ #[t] ty #[x]).run P w = .ok r w := by
  unfold evLen at h
  split at h
  · rename_i s hs
    injection h with h; subst h; simp [Builtin.len_, run_underlying hs, goInt]
  · rename_i s hs
    injection h with h; subst h; simp [Builtin.len_, run_underlying hs, goInt]
  · rename_i s hs
    injection h with h; subst h; simp [Builtin.len_, run_underlying hs, goInt]
  · cases h
/-- 's[lo:hi]' of a string or a slice. -/
def cutNeeds (lo hi : Option Int) (len cap : Nat) : List Prop := match lo, hi with
  | none, none => [len ≤ cap]
  | some l, none => [0 ≤ l, l ≤ len, len ≤ cap]
  | none, some h => [0 ≤ h, h ≤ cap]
  | some l, some h => [0 ≤ l, l ≤ h, h ≤ cap]
def cutLo : Option Int → Nat
  | none => 0
  | some l => l.toNat
def cutHi (len : Nat) : Option Int → Nat
  | none => len
  | some h => h.toNat
def evSlice (P : Program) (t : TypeId) (x : Value) (lo hi : Option Int) : Option (List Prop × Value) := match P.underlying t, x with
  | some .string, .string s => some (cutNeeds lo hi s.size s.size, .string (s.extract (cutLo lo) (cutHi s.size hi)))
  | some (.slice e), .slice A n c => match szOf P e with
    | some sz => match lo with
      | none => some (cutNeeds none hi n c, .slice A (cutHi n hi) c)
      | some l => some (cutNeeds (some l) hi n c, .slice (if c = l.toNat then A else A.map fun a => a.add (l.toNat * sz)) (cutHi n hi - l.toNat) (c - l.toNat))
    | none => none
  | _, _ => none
theorem sliceBound_run {P : Program} {i : Int} {y : Nat} {code : BoundsCode} (h0 : 0 ≤ i) (h1 : i ≤ y) (w : World) : (Instr.sliceBound (.int .i64 i) y code).run P w = .ok i.toNat w := by
  simp [Instr.sliceBound, asIntOf, h0, h1]
theorem sliceBounds_run {P : Program} {b : Bool} {len cap : Nat} {lo hi : Option Int} (hn : ∀ p ∈ cutNeeds lo hi len cap, p) (w : World) :
    (Instr.sliceBounds b len cap (lo.map (Value.int .i64)) (hi.map (Value.int .i64)) none).run P w = .ok (cutLo lo, cutHi len hi, cap) w := by
  cases hi with
  | none =>
    cases lo with
    | none => simp [Instr.sliceBounds, cutLo, cutHi]
    | some l => simp only [cutNeeds, List.mem_cons, List.not_mem_nil, or_false, forall_eq_or_imp, forall_eq] at hn; simp [Instr.sliceBounds, sliceBound_run hn.1 hn.2.1, cutLo, cutHi]
  | some h =>
    cases lo with
    | none => simp only [cutNeeds, List.mem_cons, List.not_mem_nil, or_false, forall_eq_or_imp, forall_eq] at hn; simp [Instr.sliceBounds, sliceBound_run hn.1 hn.2, cutLo, cutHi]
    | some l =>
      simp only [cutNeeds, List.mem_cons, List.not_mem_nil, or_false, forall_eq_or_imp, forall_eq] at hn
      simp [Instr.sliceBounds, sliceBound_run (show 0 ≤ h by omega) hn.2.2, sliceBound_run (y := h.toNat) hn.1 (by omega), cutLo, cutHi]
theorem evSlice_run {P : Program} {t : TypeId} {x r : Value} {lo hi : Option Value} {lo' hi' : Option Int} {ns : List Prop} (h : evSlice P t x lo' hi' = some (ns, r)) (hn : ∀ p ∈ ns, p)
    (hlo : lo = lo'.map (Value.int .i64)) (hhi : hi = hi'.map (Value.int .i64)) (w : World) : (Instr.sliceAt t x lo hi none).run P w = .ok r w := by
  subst hlo hhi
  unfold evSlice at h
  split at h
  · rename_i s hs
    injection h with h
    injection h with h1 h2
    subst h1 h2
    simp [Instr.sliceAt, Instr.slice, run_underlying hs, sliceBounds_run hn]
  · rename_i e A n c hs
    split at h
    · rename_i sz hsz
      split at h
      · injection h with h
        injection h with h1 h2
        subst h1 h2
        have e0 : (A.map fun a => a.add 0) = A := by cases A <;> simp [Addr.add]
        have := sliceBounds_run (P := P) (b := true) hn w
        simp only [Option.map_none] at this
        simp [Instr.sliceAt, Instr.slice, run_underlying hs, this, run_szOf hsz, cutLo, e0]
      · rename_i l
        injection h with h
        injection h with h1 h2
        subst h1 h2
        have := sliceBounds_run (P := P) (b := true) hn w
        simp only [Option.map_some] at this
        simp [Instr.sliceAt, Instr.slice, run_underlying hs, this, run_szOf hsz, cutLo]
    · cases h
  · cases h
def evNil (x : AV) : Option (List Prop × AV) := match x with
  | .p (.own i k) => some ([], .p (.own i k))
  | .ptr A k => some ([], .ptr A k)
  | .p (.v (.pointer A)) => some ([A ≠ none], .ptr A 0)
  | _ => none
theorem evNil_spec {x r : AV} {ns : List Prop} {ε : Env} {y : Value} (h : evNil x = some (ns, r)) (hn : ∀ p ∈ ns, p) (hx : x.den ε y) : (∃ a, y = .pointer (some a)) ∧ r.den ε y := by
  unfold evNil at h
  split at h
  · injection h with h; injection h with h1 h2; subst h1 h2; exact ⟨⟨_, hx⟩, hx⟩
  · injection h with h; injection h with h1 h2; subst h1 h2; obtain ⟨a, ha, hy⟩ := hx; exact ⟨⟨_, hy⟩, a, ha, hy⟩
  · rename_i A
    injection h with h
    injection h with h1 h2
    subst h1 h2
    have hA : A ≠ none := hn _ (by simp)
    cases A with
    | none => exact absurd rfl hA
    | some a => rw [show y = _ from hx]; exact ⟨⟨_, rfl⟩, a, rfl, by simp [Addr.add]⟩
  · cases h
end
end Go.Proofs.YthaamalgeieijabDoor
