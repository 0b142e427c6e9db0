/- The symbolic executor: what a body does, as a plain statement; and that it is sound. No condition. -/
import Derived.Test.YthaamalgeieijabDoorSe
import Derived.Deep.LoopGhost
set_option linter.unusedVariables false
set_option linter.unusedSimpArgs false
namespace Go.Proofs.YthaamalgeieijabDoor
open Go.RowKit

/-! ### The words of the plain statements -/
structure NEED (p q : Prop) : Prop where
  need : p
  rest : q
structure IFF (b : Bool) (p q : Prop) : Prop where
  yes : b = true → p
  no : b = false → q
structure EX {α : Type} (f : α → Prop) : Prop where
  ex : ∃ x, f x
inductive STUCK (why : Nat) : Prop
def conj : Prop → List Prop → Prop
  | p, [] => p
  | p, q :: l => p ∧ conj q l
def needs (g : Option Bool) : List Prop → Prop → Prop
  | [], q => q
  | p :: l, q => match g with
    | none => NEED (conj p l) q
    | some b => NEED (b = true → conj p l) q
theorem conj_spec {p : Prop} {l : List Prop} (h : conj p l) : ∀ q ∈ p :: l, q := by
  induction l generalizing p with
  | nil => intro q hq; rw [List.mem_singleton] at hq; subst hq; exact h
  | cons r l ih =>
    intro q hq
    rcases List.mem_cons.1 hq with rfl | hq
    · exact h.1
    · exact ih h.2 q hq
theorem needs_spec {g : Option Bool} {ns : List Prop} {q : Prop} (h : needs g ns q) : q ∧ ((∀ b, g = some b → b = true) → ∀ p ∈ ns, p) := by
  cases ns with
  | nil => exact ⟨h, fun _ p hp => absurd hp (by simp)⟩
  | cons p l =>
    cases g with
    | none => exact ⟨h.rest, fun _ => conj_spec h.need⟩
    | some b => exact ⟨h.rest, fun hb => conj_spec (h.need (hb b rfl))⟩

/-! ### Shapes -/
inductive PSh where
  | int (k : IntKind)
  | bool
  | str
  | slc
  | ptr
  | map
  | fn
  | any
inductive Sh where
  | one (p : PSh)
  | agg (l : List PSh)
inductive RSh where
  | one (s : Sh)
  | tup (l : List Sh)
def EXP : PSh → (Value → Prop) → Prop
  | .int k, f => EX fun x : Int => f (.int k x)
  | .bool, f => EX fun b : Bool => f (.bool b)
  | .str, f => EX fun s : ByteArray => f (.string s)
  | .slc, f => EX fun A : Option Addr => EX fun n : Nat => EX fun c : Nat => f (.slice A n c)
  | .ptr, f => EX fun A : Option Addr => f (.pointer A)
  | .map, f => EX fun r : Option Nat => f (.map r)
  | .fn, f => EX fun g : FuncId => EX fun a : List Value => EX fun b : List Value => f (.func (.func g) a.toArray b.toArray)
  | .any, f => EX fun v : Value => f v
def EXL : List PSh → (List Value → Prop) → Prop
  | [], f => f []
  | s :: l, f => EXP s fun v => EXL l fun vs => f (v :: vs)
def EXS : Sh → (Value → Prop) → Prop
  | .one p, f => EXP p f
  | .agg l, f => EXL l fun vs => f (.agg vs.toArray)
def EXT : List Sh → (List Value → Prop) → Prop
  | [], f => f []
  | s :: l, f => EXS s fun v => EXT l fun vs => f (v :: vs)
def EXR : RSh → (Value → Prop) → Prop
  | .one s, f => EXS s f
  | .tup l, f => EXT l fun vs => f (.tuple vs.toArray)
theorem EXP_spec {s : PSh} {f : Value → Prop} (h : EXP s f) : ∃ v, f v := by
  cases s with
  | slc => obtain ⟨A, ⟨n, ⟨c, h⟩⟩⟩ := h; exact ⟨_, h⟩
  | fn => obtain ⟨A, ⟨n, ⟨c, h⟩⟩⟩ := h; exact ⟨_, h⟩
  | _ => obtain ⟨x, h⟩ := h; exact ⟨_, h⟩
theorem EXL_spec {l : List PSh} {f : List Value → Prop} (h : EXL l f) : ∃ vs, f vs := by
  induction l generalizing f with
  | nil => exact ⟨_, h⟩
  | cons s l ih => obtain ⟨v, h⟩ := EXP_spec h; obtain ⟨vs, h⟩ := ih h; exact ⟨_, h⟩
theorem EXS_spec {s : Sh} {f : Value → Prop} (h : EXS s f) : ∃ v, f v := by
  cases s with
  | one p => exact EXP_spec h
  | agg l => obtain ⟨vs, h⟩ := EXL_spec h; exact ⟨_, h⟩
theorem EXT_spec {l : List Sh} {f : List Value → Prop} (h : EXT l f) : ∃ vs, f vs := by
  induction l generalizing f with
  | nil => exact ⟨_, h⟩
  | cons s l ih => obtain ⟨v, h⟩ := EXS_spec h; obtain ⟨vs, h⟩ := ih h; exact ⟨_, h⟩
theorem EXR_spec {s : RSh} {f : Value → Prop} (h : EXR s f) : ∃ v, f v := by
  cases s with
  | one p => exact EXS_spec h
  | tup l => obtain ⟨vs, h⟩ := EXT_spec h; exact ⟨_, h⟩
def pshOf (P : Program) (t : TypeId) : PSh := match P.underlying t with
  | some .bool => .bool
  | some (.int k) => .int k
  | some .string => .str
  | some (.slice _) => .slc
  | some (.pointer _) => .ptr
  | some (.map _ _) => .map
  | some (.func ..) => .fn
  | _ => .any
def cellsSh (P : Program) : Nat → TypeId → List PSh
  | 0, _ => []
  | n + 1, t => match P.underlying t with
    | some (.struct fs) => fs.toList.flatMap fun f => cellsSh P n f.type
    | some (.array m e) => (List.range m).flatMap fun _ => cellsSh P n e
    | _ => [pshOf P t]
def shOf (P : Program) (t : TypeId) : Sh := match P.underlying t with
  | some (.struct _) | some (.array ..) => .agg (cellsSh P 8 t)
  | _ => .one (pshOf P t)
def rshOf (P : Program) (f : FuncId) : RSh := match P.funcs[f]? with
  | some fn => match fn.resultTypes.toList with
    | [t] => .one (shOf P t)
    | l => .tup (l.map (shOf P))
  | none => .one (.one .any)

/-! ### A function's contract -/
/-- From this memory on the call returns such a value, in memory that has only grown; of what was there nothing is written but what is lent. -/
def PSpec (P : Program) (f : FuncId) (args : Array Value) (M L : Mem) (Post : Value → Mem → Mem → Prop) : Prop :=
  ∀ w, Knows M w → Knows L w → (∀ k o, L k = some o → M k = none) → Calls P f args w fun e w' => ∃ v M' L', e = .returned v ∧ After M L w M' L' w' ∧ Post v M' L'
structure CALL (P : Program) (f : FuncId) (args : Array Value) (M L : Mem) (k : Value → Mem → Mem → Prop) : Prop where
  ex : ∃ Post : Value → Mem → Mem → Prop, PSpec P f args M L Post ∧ ∀ v M' L', M.le M' → Post v M' L' → k v M' L'
/-- Some of what may be written is given up: it stays as it is. -/
structure PUB (M L M' L' : Mem) : Prop where
  le : M.le M'
  newM : ∀ k o, M' k = some o → M k = some o ∨ L k = some o
  lin : ∀ k o, L' k = some o → L k = some o ∧ M' k = M k
structure PUBD (I : Mem → Mem → Prop) (M L : Mem) : Prop where
  ex : ∃ M' L', PUB M L M' L' ∧ I M' L'
theorem PUB.refl (M L : Mem) : PUB M L M L := ⟨Mem.le_refl _, fun _ _ h => .inl h, fun _ _ h => ⟨h, rfl⟩⟩
theorem PUBD.refl {I : Mem → Mem → Prop} {M L : Mem} (h : I M L) : PUBD I M L := ⟨M, L, .refl _ _, h⟩
theorem PUB.disj {M L M' L' : Mem} (h : PUB M L M' L') (hd : ∀ k o, L k = some o → M k = none) : ∀ k o, L' k = some o → M' k = none := fun k o hk => by
  obtain ⟨h1, h2⟩ := h.lin k o hk
  rw [h2]
  exact hd k o h1
theorem PUB.knows {M L M' L' : Mem} {w : World} (h : PUB M L M' L') (h1 : Knows M w) (h2 : Knows L w) : Knows M' w ∧ Knows L' w :=
  ⟨fun k o hk => (h.newM k o hk).elim (h1 k o) (h2 k o), fun k o hk => h2 k o (h.lin k o hk).1⟩
theorem After.pubPre {M L M1 L1 M' L' : Mem} {w w' : World} (h : PUB M L M1 L1) (k : After M1 L1 w M' L' w') : After M L w M' L' w' :=
  { le := Mem.le_trans h.le k.le, know := k.know, lin := k.lin, disj := k.disj,
    newM := fun i o hi => by
      rcases k.newM i o hi with h1 | h1 | h1
      · rcases h.newM i o h1 with h2 | h2
        · exact .inl h2
        · exact .inr (.inl (by rw [h2]; simp))
      · refine .inr (.inl fun hn => ?_)
        cases hx : L1 i with
        | none => exact h1 hx
        | some o' => have := (h.lin i o' hx).1; rw [hn] at this; cases this
      · exact .inr (.inr h1),
    newL := fun i o hi => by
      rcases k.newL i o hi with h1 | h1
      · refine .inl fun hn => ?_
        cases hx : L1 i with
        | none => exact h1 hx
        | some o' => have := (h.lin i o' hx).1; rw [hn] at this; cases this
      · exact .inr h1,
    os := k.os, tape := k.tape, output := k.output, size := k.size,
    frame := fun i hi hn => k.frame i hi (by
      cases hx : L1 i with
      | none => rfl
      | some o' => have := (h.lin i o' hx).1; rw [hn] at this; cases this) }
theorem After.pubPost {M L M1 L1 M' L' : Mem} {w w' : World} (k : After M L w M1 L1 w') (h : PUB M1 L1 M' L') : After M L w M' L' w' :=
  { le := Mem.le_trans k.le h.le, know := (h.knows k.know k.lin).1, lin := (h.knows k.know k.lin).2, disj := h.disj k.disj,
    newM := fun i o hi => by
      rcases h.newM i o hi with h1 | h1
      · exact k.newM i o h1
      · rcases k.newL i o h1 with h2 | h2
        · exact .inr (.inl h2)
        · exact .inr (.inr h2),
    newL := fun i o hi => k.newL i o (h.lin i o hi).1,
    os := k.os, tape := k.tape, output := k.output, size := k.size, frame := k.frame }
theorem PSpec.pub {P : Program} {f : FuncId} {args : Array Value} {M L M1 L1 : Mem} {Post : Value → Mem → Mem → Prop} (h : PUB M L M1 L1) (k : PSpec P f args M1 L1 Post) : PSpec P f args M L Post := by
  intro w h1 h2 h3
  have hk := h.knows h1 h2
  refine (k w hk.1 hk.2 (h.disj h3)).mono ?_
  rintro e w' ⟨v, M', L', rfl, ha, hp⟩
  exact ⟨v, M', L', rfl, ha.pubPre h, hp⟩
theorem PSpec.mono {P : Program} {f : FuncId} {args : Array Value} {M L : Mem} {Post Post' : Value → Mem → Mem → Prop} (k : PSpec P f args M L Post) (h : ∀ v M' L', M.le M' → Post v M' L' → PUBD (Post' v) M' L') : PSpec P f args M L Post' := by
  intro w h1 h2 h3
  refine (k w h1 h2 h3).mono ?_
  rintro e w' ⟨v, M', L', rfl, ha, hp⟩
  obtain ⟨M'', L'', hpub, hp'⟩ := h v M' L' ha.le hp
  exact ⟨v, M'', L'', rfl, ha.pubPost hpub, hp'⟩

/-! ### Operations that only compute -/
section
variable {P : Program} {Z : Zn} {w0 w : World} {st : St} {a : Act} {ε : Env}
def bOf : AV → Option Bool
  | .p (.v (.bool b)) => some b
  | .cb b => some b
  | _ => none
theorem bOf_spec {x : AV} {b : Bool} {y : Value} (h : bOf x = some b) (hd : x.den ε y) : y = .bool b := by
  unfold bOf at h
  split at h
  · injection h with h; subst h; exact hd
  · injection h with h; subst h; exact hd
  · cases h
def evPick (st : St) (ch : List (Nat × Bool)) (c x y : Operand) : Option (List Prop × AV) := match c with
  | .tmp t => match st.get ch (.tmp t) with
    | .cb true => match bOf (st.get ch x) with
      | some b => some ([], .p (.v (.bool b)))
      | none => none
    | .cb false => match bOf (st.get ch y) with
      | some b => some ([], .p (.v (.bool b)))
      | none => none
    | .p (.v (.bool b)) => match x, y with
      | x, .const (.bool false) => match bOf (st.get ((t, true) :: ch) x) with
        | some u => some ([], .p (.v (.bool (b && u))))
        | none => none
      | .const (.bool true), y => match bOf (st.get ((t, false) :: ch) y) with
        | some u => some ([], .p (.v (.bool (b || u))))
        | none => none
      | x, y => match bOf (st.get ((t, true) :: ch) x), bOf (st.get ((t, false) :: ch) y) with
        | some u, some v => some ([], .p (.v (.bool (bif b then u else v))))
        | _, _ => none
    | _ => none
  | _ => none
theorem holds_cons {t : Nat} {b : Bool} {ch : List (Nat × Bool)} (ht : a.eval (.tmp t) = .bool b) (h : Holds a ch) : Holds a ((t, b) :: ch) := by
  intro q hq
  rcases List.mem_cons.1 hq with rfl | hq
  · simp only [Act.eval] at ht
    cases hx : a.tmps[t]? with
    | none => simp [Array.getD_eq_getD_getElem?, hx, undef] at ht
    | some v => simp [Array.getD_eq_getD_getElem?, hx] at ht; subst ht; rfl
  · exact h q hq
theorem evPick_run (h : Inv Z w0 st a w ε) {ch : List (Nat × Bool)} (hc : Holds a ch) {c x y : Operand} {ns : List Prop} {r : AV} (he : evPick st ch c x y = some (ns, r)) :
    ∃ b, a.eval c = .bool b ∧ r.den ε (if b then a.eval x else a.eval y) := by
  unfold evPick at he
  split at he
  · rename_i t
    have hg := h.get hc (.tmp t)
    split at he
    · rename_i hq
      rw [hq] at hg
      split at he
      · rename_i b hb
        injection he with he; injection he with _ he; subst he
        exact ⟨true, hg, bOf_spec hb (h.get hc x)⟩
      · cases he
    · rename_i hq
      rw [hq] at hg
      split at he
      · rename_i b hb
        injection he with he; injection he with _ he; subst he
        exact ⟨false, hg, bOf_spec hb (h.get hc y)⟩
      · cases he
    · rename_i b hq
      rw [hq] at hg
      have hev : a.eval (.tmp t) = .bool b := hg
      refine ⟨b, hev, ?_⟩
      have hT : b = true → Holds a ((t, true) :: ch) := fun e => by subst e; exact holds_cons hev hc
      have hF : b = false → Holds a ((t, false) :: ch) := fun e => by subst e; exact holds_cons hev hc
      split at he
      · split at he
        · rename_i u hu
          injection he with he; injection he with _ he; subst he
          cases b with
          | true => show _ = _; simpa using bOf_spec hu (h.get (hT rfl) _)
          | false => rfl
        · cases he
      · split at he
        · rename_i u hu
          injection he with he; injection he with _ he; subst he
          cases b with
          | true => rfl
          | false => show _ = _; simpa using bOf_spec hu (h.get (hF rfl) _)
        · cases he
      · split at he
        · rename_i u v hu hv
          injection he with he; injection he with _ he; subst he
          cases b with
          | true => show _ = _; simpa using bOf_spec hu (h.get (hT rfl) _)
          | false => show _ = _; simpa using bOf_spec hv (h.get (hF rfl) _)
        · cases he
    · cases he
  · cases he
def evLoad (P : Program) (st : St) (t : TypeId) (x : AV) : Option AV := match x with
  | .p (.own i o) => match st.boxes.lookup i, szOf P t, aggOf P t with
    | some (_, cs), some n, some true => if ((cs.drop o).take n).length = n then some (.agg ((cs.drop o).take n)) else none
    | some (_, cs), some _, some false => match cs[o]? with
      | some c => some (.p c)
      | none => none
    | _, _, _ => none
  | _ => none
/-- A world in which the box that is loaded is as it is here. -/
def SameBox (w w' : World) (ε : Env) (x : AV) : Prop := ∀ i o, x = .p (.own i o) → w'.heap[ε.bx i]? = w.heap[ε.bx i]?
theorem evLoad_run (h : Inv Z w0 st a w ε) {t : TypeId} {x r : AV} {y : Value} (he : evLoad P st t x = some r) (hx : x.den ε y) : ∃ z, (∀ w', SameBox w w' ε x → (Instr.loadAt t y).run P w' = .ok z w') ∧ r.den ε z := by
  unfold evLoad at he
  split at he
  · rename_i i o
    rw [show y = _ from hx]
    split at he
    · rename_i bt cs n hb hn hag
      split at he
      · rename_i hl
        injection he with he
        subst he
        obtain ⟨vs, hh, hs, hv⟩ := h.hp.box i bt cs hb
        have hl' : o + n ≤ cs.length ∨ n = 0 := by simp at hl; omega
        refine ⟨.agg ((vs.toList.drop o).take n).toArray, fun w' hsame => ?_, ((vs.toList.drop o).take n).toArray, rfl, ?_, ?_⟩
        · have hh' := (hsame i o rfl).trans hh
          have hlen : ((vs.toList.drop o).take n).length = n := by simp at hl ⊢; omega
          have hrun := run_loadCells_list (P := P) w' ⟨ε.bx i, o, none⟩ ((vs.toList.drop o).take n) (fun j v hj => by
            rw [own_add]
            simp only [World.cell?, hh']
            rw [List.getElem?_take] at hj
            split at hj
            · rw [List.getElem?_drop] at hj; simpa using hj
            · cases hj)
          rw [hlen] at hrun
          simp [Instr.loadAt, Instr.sureAddr, loadVar, run_aggOf hag, run_szOf hn, hrun]
        · simp at hl ⊢; omega
        · intro j c u hj hu
          simp only [List.getElem?_toArray] at hu
          rw [List.getElem?_take] at hj hu
          split at hj
          · rename_i hlt
            rw [if_pos hlt] at hu
            rw [List.getElem?_drop] at hj hu
            exact hv (o + j) c u hj (by simpa using hu)
          · cases hj
      · cases he
    · rename_i bt cs n hb hn hag
      split at he
      · rename_i c hc
        injection he with he
        subst he
        obtain ⟨vs, hh, hs, hv⟩ := h.hp.box i bt cs hb
        have ho : o < vs.size := by rw [hs]; exact (List.getElem?_eq_some_iff.1 hc).1
        refine ⟨vs[o], fun w' hsame => ?_, hv o c vs[o] hc (by simp [ho])⟩
        have hh' := (hsame i o rfl).trans hh
        have hcell : w'.cell? ⟨ε.bx i, o, none⟩ = some vs[o] := by simp [World.cell?, hh', ho]
        simp [Instr.loadAt, Instr.sureAddr, loadVar, run_aggOf hag, hcell]
      · cases he
    · cases he
  · cases he

def AV.copy : AV → Option AV
  | .p c => some (.p c)
  | .cb b => some (.cb b)
  | .ptr A k => some (.ptr A k)
  | .agg l => some (.agg l)
  | .tup l => some (.tup l)
theorem AV.copy_eq (x : AV) : x.copy = some x := by cases x <;> rfl
def intOfV : Option AV → Option (Option Int)
  | none => some none
  | some (.p (.v (.int .i64 n))) => some (some n)
  | _ => none
def plainO (r : Option (List Prop × Value)) : Option (List Prop × AV) := match r with
  | some (ns, v) => some (ns, .p (.v v))
  | none => none
def partsC (st : St) (ch : List (Nat × Bool)) : List (Nat × Operand) → Option (List (Nat × Value))
  | [] => some []
  | (i, x) :: l => match (st.get ch x).toV, partsC st ch l with
    | some v, some vs => some ((i, v) :: vs)
    | _, _ => none
theorem partsC_spec (h : Inv Z w0 st a w ε) {ch : List (Nat × Bool)} (hc : Holds a ch) : ∀ {l : List (Nat × Operand)} {vs : List (Nat × Value)}, partsC st ch l = some vs → l.map (fun (i, x) => (i, a.eval x)) = vs
  | [], vs, hp => by simp [partsC] at hp; subst hp; rfl
  | (i, x) :: l, vs, hp => by
    simp only [partsC] at hp
    split at hp
    · rename_i v vs' hv hvs
      injection hp with hp
      subst hp
      simp [partsC_spec h hc hvs, AV.toV_spec hv (h.get hc x)]
    · cases hp
def evIndexX (P : Program) (t : TypeId) (x ix : AV) : Option (List Prop × AV) := match x with
  | .p (.v (.string s)) => evIndex P t (.p (.v (.string s))) ix
  | x => match x.toV, ix with
    | some u, .p (.v (.int _ i)) => plainO (evIndexArr P t u i)
    | _, _ => none
theorem evIndexX_run {t : TypeId} {x ix r : AV} {ns : List Prop} {y z : Value} (h : evIndexX P t x ix = some (ns, r)) (hn : ∀ p ∈ ns, p) (hx : x.den ε y) (hz : ix.den ε z) :
    ∃ u, (∀ w, (Instr.index t y z).run P w = .ok u w) ∧ r.den ε u := by
  unfold evIndexX at h
  split at h
  · exact evIndex_run h hn hx hz
  · split at h
    · rename_i u k i hu
      rw [AV.toV_spec hu hx, show z = _ from hz]
      unfold plainO at h
      split at h
      · rename_i ns' v' hb
        injection h with h; injection h with h1 h2; subst h1 h2
        exact ⟨v', fun w => evIndexArr_run hb hn w, rfl⟩
      · cases h
    · cases h
def evIndexAddrX (P : Program) (t : TypeId) (x ix : AV) : Option (List Prop × AV) := match P.underlying t with
  | some (.array _ _) => evIndexArrAddr P t x ix
  | _ => evIndexAddr P t x ix
theorem evIndexAddrX_run {t : TypeId} {x ix r : AV} {ns : List Prop} {y z : Value} (h : evIndexAddrX P t x ix = some (ns, r)) (hn : ∀ p ∈ ns, p) (hx : x.den ε y) (hz : ix.den ε z) :
    ∃ u, (∀ w, (Instr.indexAt t y z).run P w = .ok u w) ∧ r.den ε u := by
  unfold evIndexAddrX at h
  split at h
  · exact evIndexArrAddr_run h hn hx hz
  · exact evIndexAddr_run h hn hx hz
def evSliceX (P : Program) (t : TypeId) (u : Value) (lo hi : Option Int) : Option (List Prop × Value) := match u with
  | .pointer A => match P.underlying t with
    | some (.array n e) => match szOf P e, lo, hi with
      | some _, none, none => some ([A ≠ none], .slice A n n)
      | _, _, _ => none
    | _ => none
  | u => evSlice P t u lo hi
theorem evSliceX_run {t : TypeId} {x r : Value} {lo hi : Option Value} {lo' hi' : Option Int} {ns : List Prop} (h : evSliceX P t x lo' hi' = some (ns, r)) (hn : ∀ p ∈ ns, p)
    (hlo : lo = lo'.map (Value.int .i64)) (hhi : hi = hi'.map (Value.int .i64)) (w : World) : (Instr.sliceAt t x lo hi none).run P w = .ok r w := by
  unfold evSliceX at h
  split at h
  · rename_i A
    split at h
    · rename_i n e hu
      split at h
      · rename_i sz hsz
        injection h with h; injection h with h1 h2; subst h1 h2
        simp only [List.mem_cons, List.not_mem_nil, or_false, forall_eq] at hn
        subst hlo hhi
        cases A with
        | none => exact absurd rfl hn
        | some a =>
          have := sliceBounds_run (P := P) (b := false) (len := n) (cap := n) (lo := none) (hi := none) (fun p hp => by simp only [cutNeeds, List.mem_cons, List.not_mem_nil, or_false] at hp; subst hp; exact Nat.le_refl _) w
          simp only [Option.map_none] at this
          simp [Instr.sliceAt, run_underlying hu, Instr.sureAddr, this, run_szOf hsz, cutLo, cutHi, Addr.add]
      · cases h
    · cases h
  · exact evSlice_run h hn hlo hhi w
def evPure (P : Program) (st : St) (ch : List (Nat × Bool)) (o : Op) : Option (List Prop × AV) := match o with
  | .move x => match (st.get ch x).copy with
    | some r => some ([], r)
    | none => none
  | .assign x => match (st.get ch x).copy with
    | some r => some ([], r)
    | none => none
  | .extract x i => match st.get ch x with
    | .p (.v (.tuple vs)) => match vs.toList[i]? with
      | some v => some ([], .p (.v v))
      | none => none
    | _ => none
  | .pick c x y => evPick st ch c x y
  | .fieldAddr s x f => evFieldAddr P s f (st.get ch x)
  | .indexAddr t x i => evIndexAddrX P t (st.get ch x) (st.get ch i)
  | .index t x i => evIndexX P t (st.get ch x) (st.get ch i)
  | .nilCheck x => evNil (st.get ch x)
  | .binOp op t x y _ => match (st.get ch x).toV, (st.get ch y).toV with
    | some u, some v => plainO (evBinP P op t u v)
    | _, _ => none
  | .unOp op _ x => match (st.get ch x).toV with
    | some u => plainO (evUn op u)
    | none => none
  | .convert s d x => match (st.get ch x).toV with
    | some u => match evConv P s d u with
      | some v => some ([], .p (.v v))
      | none => none
    | none => none
  | .slice t x lo hi none => match (st.get ch x).toV, intOfV (lo.map (st.get ch)), intOfV (hi.map (st.get ch)) with
    | some u, some l, some h => plainO (evSliceX P t u l h)
    | _, _, _ => none
  | .load t x => match evLoad P st t (st.get ch x) with
    | some r => some ([], r)
    | none => none
  | .call { callee := .builtin .len, args := ⟨[x]⟩, argTypes := ⟨[t]⟩ } => match (st.get ch x).toV with
    | some u => match evLen P t u with
      | some v => some ([], .p (.v v))
      | none => none
    | none => none
  | .build t ps => match partsC st ch ps.toList with
    | some vs => match P.built t vs with
      | some cs => some ([], .p (.v (.agg cs)))
      | none => none
    | none => none
  | _ => none
theorem intOfV_spec (h : Inv Z w0 st a w ε) {ch : List (Nat × Bool)} (hc : Holds a ch) {x : Option Operand} {n : Option Int} (hx : intOfV (x.map (st.get ch)) = some n) : x.map a.eval = n.map (Value.int .i64) := by
  cases x with
  | none => simp [intOfV] at hx; subst hx; rfl
  | some x =>
    simp only [Option.map_some] at hx
    unfold intOfV at hx
    split at hx
    · rename_i he; cases he
    · rename_i m he
      injection he with he
      injection hx with hx
      subst hx
      have := h.get hc x
      rw [he] at this
      simp only [Option.map_some]
      rw [show a.eval x = _ from this]
    · cases hx
theorem evPure_run (h : Inv Z w0 st a w ε) {ch : List (Nat × Bool)} (hc : Holds a ch) {o : Oper} {ns : List Prop} {r : AV} (he : evPure P st ch o.op = some (ns, r)) (hn : ∀ p ∈ ns, p) :
    ∃ y, (∀ w', (∀ t x, o.op = .load t x → SameBox w w' ε (st.get ch x)) → (execOp a.eval o).run P w' = .ok (.value y) w') ∧ r.den ε y := by
  unfold evPure at he
  split at he
  all_goals rename_i hop
  · rename_i x
    rw [AV.copy_eq] at he
    injection he with he; injection he with _ he; subst he
    exact ⟨a.eval x, fun w' _ => by simp [execOp, hop], h.get hc x⟩
  · rename_i x
    rw [AV.copy_eq] at he
    injection he with he; injection he with _ he; subst he
    exact ⟨a.eval x, fun w' _ => by simp [execOp, hop], h.get hc x⟩
  · rename_i x i
    split at he
    · rename_i vs hx
      split at he
      · rename_i v hv
        injection he with he; injection he with _ he; subst he
        have hg := h.get hc x
        rw [hx] at hg
        refine ⟨v, fun w' _ => ?_, rfl⟩
        simp [execOp, hop, show a.eval x = _ from hg, Instr.extract]
        have : vs[i]? = some v := by simpa using hv
        simp [this]
      · cases he
    · cases he
  · rename_i c x y
    obtain ⟨b, hb, hd⟩ := evPick_run h hc he
    exact ⟨(if b then a.eval x else a.eval y), fun w' _ => by simp [execOp, hop, hb, asBool], hd⟩
  · rename_i s x f
    obtain ⟨z, hz, hd⟩ := evFieldAddr_run he hn (h.get hc x)
    exact ⟨z, fun w' _ => by simp [execOp, hop, hz w'], hd⟩
  · rename_i t x i
    obtain ⟨z, hz, hd⟩ := evIndexAddrX_run he hn (h.get hc x) (h.get hc i)
    exact ⟨z, fun w' _ => by simp [execOp, hop, hz w'], hd⟩
  · rename_i t x i
    obtain ⟨z, hz, hd⟩ := evIndexX_run he hn (h.get hc x) (h.get hc i)
    exact ⟨z, fun w' _ => by simp [execOp, hop, hz w'], hd⟩
  · rename_i x
    obtain ⟨⟨ad, hy⟩, hd⟩ := evNil_spec he hn (h.get hc x)
    exact ⟨a.eval x, fun w' _ => by simp [execOp, hop, hy], hd⟩
  · rename_i op t x y u
    split at he
    · rename_i u v hu hv
      have e1 := AV.toV_spec hu (h.get hc x)
      have e2 := AV.toV_spec hv (h.get hc y)
      unfold plainO at he
      split at he
      · rename_i ns' v' hb
        injection he with he; injection he with h1 h2; subst h1 h2
        refine ⟨v', fun w' _ => ?_, rfl⟩
        have := evBinP_run (P := P) (t := t) hb hn w' x y
        simp only [execOp, hop, e1, e2, Sem.run_bind, this, Result.andThen_ok, Sem.run_pure]
      · cases he
    · cases he
  · rename_i op t x
    split at he
    · rename_i u hu
      have e1 := AV.toV_spec hu (h.get hc x)
      unfold plainO at he
      split at he
      · rename_i ns' v' hb
        injection he with he; injection he with h1 h2; subst h1 h2
        exact ⟨v', fun w' _ => by simp [execOp, hop, e1, evUn_run hb hn], rfl⟩
      · cases he
    · cases he
  · rename_i s d x
    split at he
    · rename_i u hu
      have e1 := AV.toV_spec hu (h.get hc x)
      split at he
      · rename_i v hv
        injection he with he; injection he with h1 h2; subst h1 h2
        exact ⟨v, fun w' _ => by simp [execOp, hop, e1, evConv_run hv], rfl⟩
      · cases he
    · cases he
  · rename_i t x lo hi
    split at he
    · rename_i u l hh hu hl hhi
      have e1 := AV.toV_spec hu (h.get hc x)
      unfold plainO at he
      split at he
      · rename_i ns' v' hb
        injection he with he; injection he with h1 h2; subst h1 h2
        exact ⟨v', fun w' _ => by simp [execOp, hop, e1, evSliceX_run hb hn (intOfV_spec h hc hl) (intOfV_spec h hc hhi)], rfl⟩
      · cases he
    · cases he
  · rename_i t x
    split at he
    · rename_i r' hr
      injection he with he; injection he with h1 h2; subst h1 h2
      obtain ⟨z, hz, hd⟩ := evLoad_run h hr (h.get hc x)
      exact ⟨z, fun w' hs => by simp [execOp, hop, hz w' (hs t x hop)], hd⟩
    · cases he
  · rename_i x t
    split at he
    · rename_i u hu
      have e1 := AV.toV_spec hu (h.get hc x)
      split at he
      · rename_i v hv
        injection he with he; injection he with h1 h2; subst h1 h2
        refine ⟨v, fun w' _ => ?_, rfl⟩
        simp [execOp, hop, resolve, invoke, builtin, e1, evLen_run hv]
      · cases he
    · cases he
  · rename_i t ps
    split at he
    · rename_i vs hvs
      split at he
      · rename_i cs hcs
        injection he with he; injection he with h1 h2; subst h1 h2
        have hp := partsC_spec h hc hvs
        refine ⟨.agg cs, fun w' _ => ?_, rfl⟩
        have hrun := run_build (P := P) w' t (ps.map fun (i, x) => (i, a.eval x)) cs (by rw [Array.toList_map, hp]; exact hcs)
        unfold execOp
        simp only [hop, Sem.run_bind, hrun, Result.andThen_ok, Sem.run_pure]
      · cases he
    · cases he
  · cases he
end
end Go.Proofs.YthaamalgeieijabDoor
