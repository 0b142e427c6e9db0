/- The symbolic executor: structs and arrays as values: '==', literals, an index. No condition. -/
import Derived.Test.YthaamalgeieijabDoorSy
import Derived.Laws.StructEq
set_option linter.unusedVariables false
set_option linter.unusedSimpArgs false
namespace Go.Proofs.YthaamalgeieijabDoor
open Go.RowKit
section
variable {P : Program} {ε : Env}
/-! ### Equal? -/
def partV (P : Program) (t : TypeId) (cs : Array Value) (off : Nat) : Option Value := match aggOf P t, szOf P t with
  | some true, some n => some (.agg ((cs.toList.drop off).take n).toArray)
  | some false, some _ => cs.toList[off]?
  | _, _ => none
theorem partV_run {t : TypeId} {cs : Array Value} {off : Nat} {v : Value} (h : partV P t cs off = some v) (w : World) : (part t cs off).run P w = .ok v w := by
  unfold partV at h
  split at h
  · rename_i n ha hn
    injection h with h
    subst h
    simp only [part, Sem.run_bind, run_aggOf ha, Result.andThen_ok, run_szOf hn, if_true, Sem.run_pure]
    congr 2
    apply Array.ext'
    simp [List.take_drop]
  · rename_i n ha hn
    simp only [part, Sem.run_bind, run_aggOf ha, Result.andThen_ok, Bool.false_eq_true, if_false]
    have : cs[off]? = some v := by simpa using h
    simp [this]
  · cases h
def eqFs (P : Program) (f : TypeId → Value → Value → Option Bool) (xs ys : Array Value) : List Field → Option Bool
  | [] => some true
  | [g] => if g.name = "_" then some true else match partV P g.type xs g.offset, partV P g.type ys g.offset with
    | some a, some b => f g.type a b
    | _, _ => none
  | g :: g' :: fs => if g.name = "_" then eqFs P f xs ys (g' :: fs) else match partV P g.type xs g.offset, partV P g.type ys g.offset with
    | some a, some b => match f g.type a b, eqFs P f xs ys (g' :: fs) with
      | some r, some s => some (r && s)
      | _, _ => none
    | _, _ => none
def eqV (P : Program) : Nat → TypeId → Value → Value → Option Bool
  | 0, _, _, _ => none
  | n + 1, t, x, y => match P.underlying t, x, y with
    | some .bool, .bool a, .bool b => some (a == b)
    | some (.int _), .int k a, .int k' b => if k = k' then some (decide (a = b)) else none
    | some .string, .string a, .string b => some (decide (a = b))
    | some (.struct fs), .agg xs, .agg ys => if P.stoodInHeld t = false then eqFs P (eqV P n) xs ys fs.toList else none
    | _, _, _ => none
theorem bytes_beq (s t : ByteArray) : (s == t) = decide (s = t) := by
  obtain ⟨a⟩ := s
  obtain ⟨b⟩ := t
  show (a == b) = _
  by_cases h : a = b
  · subst h; simp
  · have : (⟨a⟩ : ByteArray) ≠ ⟨b⟩ := fun e => h (by injection e)
    simp [h, this]
theorem eqFs_run {f : TypeId → Value → Value → Option Bool} {d : Nat} (hf : ∀ t x y b, f t x y = some b → ∀ w, (Op.equalIn d t x y).run P w = .ok b w) (xs ys : Array Value) (w : World) :
    ∀ {fs : List Field} {b : Bool}, eqFs P f xs ys fs = some b → (Op.eqFields d xs ys fs).run P w = .ok b w
  | [], b, h => by simp [eqFs] at h; subst h; simp [Op.eqFields]
  | [g], b, h => by
    unfold eqFs at h
    split at h
    · rename_i hn
      injection h with h
      subst h
      simp [Op.eqFields, hn]
    · rename_i hn
      split at h
      · rename_i a c ha hc
        simp only [Op.eqFields, ne_eq, hn, not_false_eq_true, if_true, Sem.run_bind, partV_run ha, partV_run hc, Result.andThen_ok, hf _ _ _ _ h]
        cases b <;> simp [Op.eqFields]
      · cases h
  | g :: g' :: fs, b, h => by
    unfold eqFs at h
    split at h
    · rename_i hn
      have ih := eqFs_run hf xs ys w h
      rw [Op.eqFields]
      simp only [ne_eq, hn, not_true_eq_false, if_false]
      exact ih
    · rename_i hn
      split at h
      · rename_i a c ha hc
        split at h
        · rename_i r s hr hs
          injection h with h
          subst h
          have ih := eqFs_run hf xs ys w hs
          rw [Op.eqFields]
          simp only [ne_eq, hn, not_false_eq_true, if_true, Sem.run_bind, partV_run ha, partV_run hc, Result.andThen_ok, hf _ _ _ _ hr]
          cases r
          · simp
          · simpa using ih
        · cases h
      · cases h
theorem eqV_run : ∀ (n : Nat) {t : TypeId} {x y : Value} {b : Bool}, eqV P n t x y = some b → ∀ (d : Nat) (w : World), (Op.equalIn (d + n) t x y).run P w = .ok b w
  | 0, t, x, y, b, h, d, w => by simp [eqV] at h
  | n + 1, t, x, y, b, h, d, w => by
    unfold eqV at h
    split at h
    · rename_i a c hu
      injection h with h; subst h
      simp [← Nat.add_assoc, Op.equalIn, run_underlying hu]
    · rename_i k0 k a k' c hu
      split at h
      · rename_i hk
        subst hk
        injection h with h; subst h
        simp [← Nat.add_assoc, Op.equalIn, run_underlying hu]
        rfl
      · cases h
    · rename_i a c hu
      injection h with h; subst h
      simp [← Nat.add_assoc, Op.equalIn, run_underlying hu, bytes_beq]
    · rename_i fs xs ys hu
      split at h
      · rename_i hp
        have hf : P.fieldsOf t = fs := by simp [Program.fieldsOf, hu]
        rw [← Nat.add_assoc, run_equalIn_struct (P := P) (w := w) (d + n) t xs ys (by rw [hf]; exact hu) hp, hf]
        exact eqFs_run (fun t x y b hb w => eqV_run n hb d w) xs ys w h
      · cases h
    · cases h
def evBinP (P : Program) (op : BinOp) (t : TypeId) (u v : Value) : Option (List Prop × Value) := match u with
  | .agg xs => match v with
    | .agg ys => match op with
      | .eql => if P.eqGuardType P.depth t = false then match eqV P 6 t (.agg xs) (.agg ys) with
        | some b => some ([], .bool b)
        | none => none else none
      | .neq => if P.eqGuardType P.depth t = false then match eqV P 6 t (.agg xs) (.agg ys) with
        | some b => some ([], .bool (!b))
        | none => none else none
      | _ => none
    | _ => none
  | _ => evBin op u v
theorem evBinP_run {op : BinOp} {t : TypeId} {x y r : Value} {ns : List Prop} (h : evBinP P op t x y = some (ns, r)) (hn : ∀ p ∈ ns, p) (w : World) (X Y : Operand) :
    (do eqGuard op t X Y x y; binOp op t x y : Sem Value).run P w = .ok r w := by
  unfold evBinP at h
  split at h
  · rename_i xs
    split at h
    · rename_i ys
      split at h
      · split at h
        · rename_i hg
          split at h
          · rename_i b hb
            injection h with h; injection h with h1 h2; subst h1 h2
            have := eqV_run 6 hb 9994 w
            simp only [Sem.run_bind, run_eql_struct, eqGuard]
            simp [run_program, hg, this]
          · cases h
        · cases h
      · split at h
        · rename_i hg
          split at h
          · rename_i b hb
            injection h with h; injection h with h1 h2; subst h1 h2
            have := eqV_run 6 hb 9994 w
            simp only [Sem.run_bind, run_neq_struct, eqGuard]
            simp [run_program, hg, this]
          · cases h
        · cases h
      · cases h
    · cases h
  · exact evBin_run h hn w X Y

/-! ### An index into an array that is a value -/
def allStr : List Value → Option (List ByteArray)
  | [] => some []
  | .string s :: l => match allStr l with
    | some ss => some (s :: ss)
    | none => none
  | _ :: _ => none
def allInt (k : IntKind) : List Value → Option (List Int)
  | [] => some []
  | .int k' n :: l => if k' = k then match allInt k l with
      | some ns => some (n :: ns)
      | none => none
    else none
  | _ :: _ => none
theorem allStr_spec : ∀ {l : List Value} {ss : List ByteArray}, allStr l = some ss → l = ss.map Value.string
  | [], ss, h => by simp [allStr] at h; subst h; rfl
  | v :: l, ss, h => by
    unfold allStr at h
    split at h
    · cases ‹v :: l = []›
    · rename_i s l' he
      split at h
      · rename_i ss' hs
        injection h with h; subst h
        injection he with e1 e2
        subst e1 e2
        rw [allStr_spec hs]; rfl
      · cases h
    · cases h
theorem allInt_spec {k : IntKind} : ∀ {l : List Value} {ns : List Int}, allInt k l = some ns → l = ns.map (Value.int k)
  | [], ss, h => by simp [allInt] at h; subst h; rfl
  | v :: l, ss, h => by
    unfold allInt at h
    split at h
    · cases ‹v :: l = []›
    · rename_i k' n l' he
      split at h
      · rename_i hk
        split at h
        · rename_i ss' hs
          injection h with h; subst h
          injection he with e1 e2
          subst e1 e2 hk
          rw [allInt_spec hs]; rfl
        · cases h
      · cases h
    · cases h
def strAt (l : List ByteArray) (i : Nat) : ByteArray := l.getD i ByteArray.empty
def intAt (l : List Int) (i : Nat) : Int := l.getD i 0
def evIndexArr (P : Program) (t : TypeId) (x : Value) (i : Int) : Option (List Prop × Value) := match P.underlying t, x with
  | some (.array len e), .agg cs => match szOf P e, aggOf P e with
    | some 1, some false => match P.underlying e with
      | some .string => match allStr cs.toList with
        | some ss => if ss.length = len then some ([0 ≤ i, i < len], .string (strAt ss i.toNat)) else none
        | none => none
      | some (.int k) => match allInt k cs.toList with
        | some ns => if ns.length = len then some ([0 ≤ i, i < len], .int k (intAt ns i.toNat)) else none
        | none => none
      | _ => none
    | _, _ => none
  | _, _ => none
theorem evIndexArr_run {t : TypeId} {x r : Value} {i : Int} {ns : List Prop} {k : IntKind} (h : evIndexArr P t x i = some (ns, r)) (hn : ∀ p ∈ ns, p) (w : World) : (Instr.index t x (.int k i)).run P w = .ok r w := by
  unfold evIndexArr at h
  split at h
  rotate_left
  · cases h
  rename_i len e cs hu
  split at h
  rotate_left
  · cases h
  rename_i hsz hag
  have key : ∀ v, cs.toList[i.toNat]? = some v → 0 ≤ i → i < len → (Instr.index t (.agg cs) (.int k i)).run P w = .ok v w := by
    intro v hv h0 h1
    have hp : (part e cs (i.toNat * 1)).run P w = .ok v w := partV_run (by simp only [partV, hsz, hag, Nat.mul_one]; exact hv) w
    simp [Instr.index, asIntOf, run_underlying hu, run_szOf hsz, h0, h1] at hp ⊢
    exact hp
  split at h
  · split at h
    · rename_i ss hss
      split at h
      · rename_i hl
        injection h with h; injection h with h1 h2; subst h1 h2
        simp only [List.mem_cons, List.not_mem_nil, or_false, forall_eq_or_imp, forall_eq] at hn
        refine key _ ?_ hn.1 hn.2
        have hlt : i.toNat < ss.length := by omega
        rw [allStr_spec hss, List.getElem?_map, List.getElem?_eq_getElem hlt]
        simp [strAt, List.getD_eq_getElem?_getD, List.getElem?_eq_getElem hlt]
      · cases h
    · cases h
  · rename_i k0 hu'
    split at h
    · rename_i ss hss
      split at h
      · rename_i hl
        injection h with h; injection h with h1 h2; subst h1 h2
        simp only [List.mem_cons, List.not_mem_nil, or_false, forall_eq_or_imp, forall_eq] at hn
        refine key _ ?_ hn.1 hn.2
        have hlt : i.toNat < ss.length := by omega
        rw [allInt_spec hss, List.getElem?_map, List.getElem?_eq_getElem hlt]
        simp [intAt, List.getD_eq_getElem?_getD, List.getElem?_eq_getElem hlt]
      · cases h
    · cases h
  · cases h
/-! ### The address of an element of an array -/
def evIndexArrAddr (P : Program) (t : TypeId) (x : AV) (ix : AV) : Option (List Prop × AV) := match P.underlying t with
  | some (.array len e) => match szOf P e, ix with
    | some sz, .p (.v (.int _ i)) => match x with
      | .ptr A k => some ([0 ≤ i, i < len], .ptr A (k + i.toNat * sz))
      | .p (.v (.pointer A)) => some ([A ≠ none, 0 ≤ i, i < len], .ptr A (i.toNat * sz))
      | _ => none
    | _, _ => none
  | _ => none
theorem evIndexArrAddr_run {t : TypeId} {x ix r : AV} {ns : List Prop} {y z : Value} (h : evIndexArrAddr P t x ix = some (ns, r)) (hn : ∀ p ∈ ns, p) (hx : x.den ε y) (hz : ix.den ε z) :
    ∃ u, (∀ w, (Instr.indexAt t y z).run P w = .ok u w) ∧ r.den ε u := by
  unfold evIndexArrAddr at h
  split at h
  rotate_left
  · cases h
  rename_i len e hu
  split at h
  rotate_left
  · cases h
  rename_i sz k i hsz
  rw [show z = _ from hz]
  split at h
  · rename_i A j
    injection h with h; injection h with h1 h2; subst h1 h2
    simp only [List.mem_cons, List.not_mem_nil, or_false, forall_eq_or_imp, forall_eq] at hn
    obtain ⟨a, rfl, rfl⟩ := hx
    refine ⟨.pointer (some ((a.add j).add (i.toNat * sz))), fun w => by simp [Instr.indexAt, asIntOf, run_underlying hu, run_szOf hsz, hn.1, hn.2, Instr.sureAddr], a, rfl, by rw [add_add']⟩
  · rename_i A
    injection h with h; injection h with h1 h2; subst h1 h2
    simp only [List.mem_cons, List.not_mem_nil, or_false, forall_eq_or_imp, forall_eq] at hn
    cases A with
    | none => exact absurd rfl hn.1
    | some a =>
      rw [show y = _ from hx]
      exact ⟨.pointer (some (a.add (i.toNat * sz))), fun w => by simp [Instr.indexAt, asIntOf, run_underlying hu, run_szOf hsz, hn.2.1, hn.2.2, Instr.sureAddr], a, rfl, rfl⟩
  · cases h
end
end Go.Proofs.YthaamalgeieijabDoor
