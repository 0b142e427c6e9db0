/- The symbolic executor: slices that grow, maps, structs on the heap, function values. No condition. -/
import Derived.Test.YthaamalgeieijabDoorSn
import Derived.Great.BuildSlice
set_option linter.unusedVariables false
set_option linter.unusedSimpArgs false
namespace Go.Proofs.YthaamalgeieijabDoor
open Go.RowKit

section
variable {P : Program} {Z : Zn} {w0 w : World} {st : St} {a : Act} {ε : Env}

def parts (st : St) : List Operand → Option (List Value)
  | [] => some []
  | x :: l => match (st.get [] x).toV, parts st l with
    | some v, some vs => some (v :: vs)
    | _, _ => none
theorem parts_spec (h : Inv Z w0 st a w ε) : ∀ {l : List Operand} {vs : List Value}, parts st l = some vs → l.map a.eval = vs
  | [], vs, hp => by simp [parts] at hp; subst hp; rfl
  | x :: l, vs, hp => by
    simp only [parts] at hp
    split at hp
    · rename_i v vs' hv hvs
      injection hp with hp
      subst hp
      simp [parts_spec h hvs, AV.toV_spec hv (h.get (HoldsT.nil _) x)]
    · cases hp

/-! ### A new block -/
structure NEWM (M L : Mem) (o : Obj) (k : Nat → Mem → Prop) : Prop where
  all : ∀ g, M g = none → L g = none → k g (M.upd g o)
structure NEWL (M L : Mem) (o : Obj) (k : Nat → Mem → Prop) : Prop where
  all : ∀ g, M g = none → L g = none → k g (L.upd g o)
/-- A new block that does not change any more. -/
theorem After.newM' {M L : Mem} {w : World} (h1 : Knows M w) (h2 : Knows L w) (h3 : ∀ k o, L k = some o → M k = none) (o : Obj) : After M L w (M.upd w.heap.size o) L (w.alloc o) ∧ L w.heap.size = none ∧ M w.heap.size = none := by
  obtain ⟨ha, hL, hM⟩ := After.new h1 h2 h3 o
  refine ⟨ha.pubPost ⟨fun k o' hk => ?_, fun k o' hk => ?_, fun k o' hk => ?_⟩, hL, hM⟩
  · rw [Mem.upd_ne _ _ (fun e => by subst e; rw [hM] at hk; cases hk)]; exact hk
  · by_cases hkg : k = w.heap.size
    · subst hkg; rw [Mem.upd_self] at hk ⊢; exact .inr hk
    · rw [Mem.upd_ne _ _ hkg] at hk; exact .inl hk
  · have hkg : k ≠ w.heap.size := fun e => by subst e; rw [hL] at hk; cases hk
    exact ⟨by rw [Mem.upd_ne _ _ hkg]; exact hk, by rw [Mem.upd_ne _ _ hkg]⟩

/-! ### A slice literal -/
def elemZero (P : Program) (t : TypeId) : Option (TypeId × Nat × Value) := match P.underlying t with
  | some (.slice e) => match P.info? e with
    | some i => match i.zero with
      | some z => some (e, i.size, z)
      | none => none
    | none => none
  | _ => none
/-- A literal whose parts are all there, one behind the other. -/
def litOk (size : Nat) : Nat → List (Nat × Operand) → List Value → Bool
  | _, [], [] => true
  | i, (j, _) :: ps, v :: vs => (j == i) && (v.cells.size == size) && litOk size (i + 1) ps vs
  | _, _, _ => false
def litCells (vs : List Value) : List Value := vs.flatMap fun v => v.cells.toList
theorem litOk_spec {size : Nat} (f : Operand → Value) : ∀ {ps : List (Nat × Operand)} {i : Nat} {vs : List Value}, litOk size i ps vs = true → (ps.map (·.2)).map f = vs →
    ps.map (fun (j, x) => (j, f x)) = (vs.zipIdx i).map (fun x => (x.2, x.1)) ∧ (∀ v ∈ vs, v.cells.size = size) ∧ vs.length = ps.length
  | [], i, [], h, he => ⟨rfl, by simp, rfl⟩
  | [], i, v :: vs, h, he => by simp [litOk] at h
  | (j, x) :: ps, i, [], h, he => by simp [litOk] at h
  | (j, x) :: ps, i, v :: vs, h, he => by
    simp only [litOk, Bool.and_eq_true, beq_iff_eq] at h
    obtain ⟨⟨rfl, h2⟩, h3⟩ := h
    simp only [List.map_cons, List.cons.injEq] at he
    obtain ⟨h4, h5, h6⟩ := litOk_spec f h3 he.2
    refine ⟨?_, ?_, by simp [h6]⟩
    · simp only [List.map_cons, List.zipIdx_cons, h4, he.1]
    · intro u hu
      rcases List.mem_cons.1 hu with rfl | hu
      · exact h2
      · exact h5 u hu
/-- Of what a step does to a value and to memory. -/
theorem eff_sound {o : Oper} {k : St → Prop} {K : Act → World → Prop} {Q : Exit → Act → World → Prop} (h : Inv Z w0 st a w ε) {v : Value} {w' : World} {M' L' : Mem} (hrun : (execOp a.eval o).run P w = .ok (.value v) w') (ha : After st.M st.L w M' L' w')
    (hk : k ({ st with M := M', L := L' }.putO o.dst ⟨[], .p (.v v)⟩)) (hK : ∀ st' a' w' ε', Inv Z w0 st' a' w' ε' → st.M.le st'.M → Stp o st w ε st' w' ε' → k st' → K a' w') : o.wp P a w K Q := by
  unfold Oper.wp
  rw [hrun, Oper.upon_value]
  exact hK _ _ _ _ (Inv.putO (st := { st with M := M', L := L' }) ⟨h.defers, h.size, h.tm, h.hp.step ha⟩ o.dst ⟨[], .p (.v v)⟩ v (fun tm => SV.den_free rfl)) (by rw [putO_M]; exact ha.le) (Stp.after (by rw [putO_M, putO_L]; exact ha)) hk
theorem eff_skip {o : Oper} {k : St → Prop} {K : Act → World → Prop} {Q : Exit → Act → World → Prop} (h : Inv Z w0 st a w ε) {w' : World} {M' L' : Mem} (hrun : (execOp a.eval o).run P w = .ok .skip w') (ha : After st.M st.L w M' L' w')
    (hk : k ({ st with M := M', L := L' }.putO o.dst ⟨[], .p (.v undef)⟩)) (hK : ∀ st' a' w' ε', Inv Z w0 st' a' w' ε' → st.M.le st'.M → Stp o st w ε st' w' ε' → k st' → K a' w') : o.wp P a w K Q := by
  unfold Oper.wp
  rw [hrun, Oper.upon_skip]
  exact hK _ _ _ _ (Inv.putO (st := { st with M := M', L := L' }) ⟨h.defers, h.size, h.tm, h.hp.step ha⟩ o.dst ⟨[], .p (.v undef)⟩ undef (fun tm => SV.den_free rfl)) (by rw [putO_M]; exact ha.le) (Stp.after (by rw [putO_M, putO_L]; exact ha)) hk

/-! ### A row that grows -/
/-- A row that is one's own: its block, from a place on, holds these cells; or it is empty, with no room. -/
def OwnRow (L : Mem) (e : TypeId) (size : Nat) (v : Value) (n : Nat) (xs : List Value) : Prop :=
  xs.length = n * size ∧ ((∃ A, v = .slice A 0 0 ∧ n = 0) ∨ ∃ g off cap cur, v = .slice (some ⟨g, off, none⟩) n cap ∧ L g = some (.cells cur e (0, 0)) ∧ n ≤ cap ∧ cap ≤ maxLen ∧ off + cap * size ≤ cur.size ∧ (cur.toList.drop off).take (n * size) = xs)
def capOf : Value → Nat
  | .slice _ _ c => c
  | _ => 0
/-- From a place on memory holds these cells. -/
def ReadsL (M : Mem) (A : Option Addr) (xs : List Value) : Prop := xs = [] ∨ ∃ a, A = some a ∧ ∀ j u, xs[j]? = some u → mcell M (a.add j) = some u
structure GREW (M L : Mem) (v v' : Value) (L' : Mem) : Prop where
  same : ∀ k, v'.ownBlock ≠ some k → L' k = L k
  fresh : ∀ g, v'.ownBlock = some g → (v.ownBlock = some g ∧ capOf v' = capOf v) ∨ (L g = none ∧ M g = none)
  zero : capOf v' = 0 → L' = L
structure GROW (M L : Mem) (mem : Mem) (e : TypeId) (size bytes : Nat) (v : Value) (A : Option Addr) (m : Nat) (k : Option Addr → Nat → Nat → Mem → Prop) : Prop where
  ex : ∃ n xs news, OwnRow L e size v n xs ∧ news.length = m * size ∧ ReadsL mem A news ∧ (∀ u ∈ news, u.oneCell' = true) ∧ n + m ≤ maxLen ∧ (n + m) * bytes ≤ 140737488355328 ∧
    ∀ A' c' L', OwnRow L' e size (.slice A' (n + m) c') (n + m) (xs ++ news) → GREW M L v (.slice A' (n + m) c') L' → k A' (n + m) c' L'
def growOf (P : Program) (t : TypeId) : Option (TypeId × Nat × Nat) := match P.underlying t with
  | some (.slice e) => match P.info? e with
    | some i => match i.zero with
      | some z => if z.cells.size = i.size ∧ 0 < i.size then some (e, i.size, i.bytes) else none
      | none => none
    | none => none
  | _ => none
def bOfL : AV → Option (Option Addr × Nat)
  | .p (.v (.slice A n _)) => some (A, n)
  | _ => none
/-- A store through a pointer. -/
structure WRITE (L : Mem) (A : Option Addr) (j : Nat) (vs : List Value) (k : Mem → Prop) : Prop where
  ex : ∃ a c t, A = some a ∧ a.spot = none ∧ L a.block = some (.cells c t (0, 0)) ∧ a.off + j + vs.length ≤ c.size ∧ k (L.upd a.block (.cells (c.toList.take (a.off + j) ++ vs ++ c.toList.drop (a.off + j + vs.length)).toArray t (0, 0)))
theorem run_write {M L : Mem} {w : World} (h1 : Knows M w) (h2 : Knows L w) (h3 : ∀ k o, L k = some o → M k = none) {t : TypeId} {A : Option Addr} {j : Nat} {v : Value} {vs : List Value} {k : Mem → Prop} (hw : WRITE L A j vs k) (hv : v.cells.toList = vs) (hone : ∀ u ∈ vs, u.oneCell' = true) (hn : szOf P t = some vs.length) :
    ∃ ad w' L', A = some ad ∧ (Instr.storeAt t (.pointer (some (ad.add j))) v).run P w = .ok () w' ∧ After M L w M L' w' ∧ k L' := by
  obtain ⟨a, c, t', rfl, hsp, hL, hle, hk⟩ := hw
  have hadd : a.add j = ⟨a.block, a.off + j, none⟩ := by obtain ⟨b, o, s⟩ := a; simp only at hsp; subst hsp; exact own_add _ _ _
  have hst := run_storeCells_at (P := P) a.block (a.off + j) t' vs 0 c w (h2 _ _ hL) (by omega) hone
  simp only [Nat.add_zero] at hst
  have hs : v.cells.size = vs.length := by rw [← hv]; simp
  refine ⟨a, _, _, rfl, ?_, After.write h1 h2 h3 hL, hk⟩
  rw [hadd]
  simp [Instr.storeAt, Instr.sureAddr, storeVar, run_szOf hn, hs, hv, hst]
def ptrOf : AV → Option (Option Addr × Nat)
  | .p (.v (.pointer A)) => some (A, 0)
  | .ptr A j => some (A, j)
  | _ => none
theorem ptrOf_spec {x : AV} {y : Value} {A : Option Addr} {j : Nat} (h : ptrOf x = some (A, j)) (hd : x.den ε y) : ∀ ad, A = some ad → y = .pointer (some (ad.add j)) := by
  unfold ptrOf at h
  split at h
  · injection h with h; injection h with h1 h2; subst h1 h2
    intro ad e
    subst e
    rw [show y = _ from hd]
    simp [Addr.add]
  · injection h with h; injection h with h1 h2; subst h1 h2
    intro ad e
    obtain ⟨a, e', hy⟩ := hd
    rw [e] at e'
    injection e' with e'
    subst e'
    exact hy
  · cases h
def mapOf (P : Program) (t : TypeId) : Option (TypeId × TypeId × TypeDesc × Value) := match P.underlying t with
  | some (.map kt et) => match P.underlying kt with
    | some d => match (P.info? et).bind (·.zero) with
      | some z => some (kt, et, d, z)
      | none => none
    | none => none
  | _ => none
def isKeyB : TypeDesc → Value → Bool
  | .int k, .int k' _ => k' = k
  | .string, .string _ => true
  | _, _ => false
theorem isKeyB_spec {d : TypeDesc} {v : Value} (h : isKeyB d v = true) : MapKept.IsKey d v := by
  unfold isKeyB at h
  split at h
  · simpa [MapKept.IsKey] using h
  · trivial
  · cases h
/-- A call of a function that is a value. -/
def isFn (P : Program) (f : FuncId) : Bool := match P.funcs[f]? with
  | some fn => !fn.body.isNone && !(fn.name == "runtime.NumGoroutine")
  | none => false
theorem call_sound {o : Oper} {c : Call} {k : St → Prop} {K : Act → World → Prop} {Q : Exit → Act → World → Prop} (h : Inv Z w0 st a w ε) (hop : o.op = .call c) {x : Operand} (hc : c.callee = .value x) {f : FuncId} {first cap : Array Value} (hx : a.eval x = .func (.func f) first cap)
    {vs : List Value} (hvs : c.args.map a.eval = vs.toArray) (hf : isFn P f = true) {sh : Value → (Value → Prop) → Prop} (hsh : ∀ v p, sh v p → ∃ v', v = v' ∧ p v')
    (he : CALL P f (first.toList ++ vs ++ cap.toList).toArray st.M st.L fun v M' L' => sh v fun v' => k ({ st with M := M', L := L' }.putO o.dst ⟨[], .p (.v v')⟩))
    (hK : ∀ st' a' w' ε', Inv Z w0 st' a' w' ε' → st.M.le st'.M → Stp o st w ε st' w' ε' → k st' → K a' w') : o.wp P a w K Q := by
  obtain ⟨Post, hspec, hnext⟩ := he
  unfold isFn at hf
  split at hf
  · rename_i fn hfn
    simp only [Bool.and_eq_true, Bool.not_eq_true', beq_eq_false_iff_ne, ne_eq] at hf
    have hb1 : fn.body ≠ none := fun e => by simp [e] at hf
    have hall : first ++ vs.toArray ++ cap = (first.toList ++ vs ++ cap.toList).toArray := by apply Array.ext'; simp
    have hrun : (execOp a.eval o).run P w = .ok (.enter f (first.toList ++ vs ++ cap.toList).toArray) w := by
      rw [← hall]
      simp [execOp, hop, hc, resolve, invoke, Deferred.ofValue, hx, callFunc, hfn, hb1, hf.2, hvs]
    unfold Oper.wp
    rw [hrun, Oper.upon_enter]
    refine (hspec w h.hp.know h.hp.lin h.hp.disj).mono ?_
    rintro e w' ⟨v, M', L', rfl, hb, hp⟩
    obtain ⟨v', rfl, h2⟩ := hsh _ _ (hnext v M' L' hb.le hp)
    exact hK _ _ _ _ (Inv.putO (st := { st with M := M', L := L' }) ⟨h.defers, h.size, h.tm, h.hp.step hb⟩ o.dst ⟨[], .p (.v v)⟩ v (fun tm => SV.den_free rfl)) (by rw [putO_M]; exact hb.le) (Stp.after (by rw [putO_M, putO_L]; exact hb)) h2
  · cases hf
/-- The shape of what a call gives: by its own type. -/
def shR (P : Program) (f : FuncId) (t : TypeId) : RSh := match P.underlying t with
  | some (.tuple ts) => .tup (ts.toList.map (shOf P))
  | _ => .one (shOf P t)
def doMore (P : Program) (o : Oper) (k : St → Prop) (st : St) : Prop := match o.op with
  | .buildSlice t len ps => match parts st (ps.toList.map (·.2)), elemZero P t with
    | some vs, some (e, size, _) => if litOk size 0 ps.toList vs = true ∧ ps.size = len ∧ len * size ≤ 16777216 ∧ 0 < len * size then
          NEWM st.M st.L (.cells (litCells vs).toArray e (0, 0)) fun g M' => k ({ st with M := M' }.putO o.dst ⟨[], .p (.v (.slice (some ⟨g, 0, none⟩) len len))⟩) else STUCK 70
    | _, _ => STUCK 72
  | .call { callee := .builtin .append, args := ⟨[s, x]⟩, argTypes := ⟨[t, t']⟩ } => match (st.get [] s).toV, bOfL (st.get [] x), growOf P t with
    | some v, some (A, m), some (e, size, bytes) => if t = t' then GROW st.M st.L st.mem e size bytes v A m fun A' n' c' L' => k ({ st with L := L' }.putO o.dst ⟨[], .p (.v (.slice A' n' c'))⟩) else STUCK 73
    | _, _, _ => STUCK 74
  | .makeFunc fn first cap => match parts st first.toList, parts st cap.toList with
    | some vs, some us => k (st.putO o.dst ⟨[], .p (.v (.func fn vs.toArray us.toArray))⟩)
    | _, _ => STUCK 75
  | .store t x y => match ptrOf (st.get [] x), (st.get [] y).cellsP with
    | some (A, j), some cs => match pvs cs with
      | some vs => if szOf P t = some vs.length ∧ cs.all PV.one = true then WRITE st.L A j vs fun L' => k ({ st with L := L' }.putO o.dst ⟨[], .p (.v undef)⟩) else STUCK 76
      | none => STUCK 77
    | _, _ => STUCK 78
  | .alloc t => match (P.info? t).bind (·.zero) with
    | some z => NEWL st.M st.L (.cells z.cells t (0, 0)) fun g L' => k ({ st with L := L' }.putO o.dst ⟨[], .p (.v (.pointer (some ⟨g, 0, none⟩)))⟩)
    | none => STUCK 79
  | .box t x => match (st.get [] x).cellsP with
    | some cs => match pvs cs with
      | some vs => NEWL st.M st.L (.cells vs.toArray t (0, 0)) fun g L' => k ({ st with L := L' }.putO o.dst ⟨[], .p (.v (.pointer (some ⟨g, 0, none⟩)))⟩)
      | none => STUCK 80
    | none => STUCK 81
  | .makeMap t none => NEWL st.M st.L (.map #[] 0) fun g L' => k ({ st with L := L' }.putO o.dst ⟨[], .p (.v (.map (some g)))⟩)
  | .lookup t x ix c => match (st.get [] x).toV, (st.get [] ix).toV, mapOf P t with
    | some mv, some key, some (_, et, d, z) => if isKeyB d key = true then EX fun es : List (Value × Value) => EX fun ok : Bool => EXS (shOf P et) fun v =>
        NEED (MapAt st.mem mv es ∧ Keys d es ∧ mGet es key = (if ok = true then some v else none) ∧ (ok = false → v = z)) (k (st.putO o.dst ⟨[], match c with
          | true => .p (.v (.tuple #[v, .bool ok]))
          | false => .p (.v v)⟩)) else STUCK 82
    | _, _, _ => STUCK 83
  | .mapUpdate t x ix y => match (st.get [] x).toV, (st.get [] ix).toV, (st.get [] y).toV, mapOf P t with
    | some mv, some key, some val, some (_, _, d, _) => if isKeyB d key = true then EX fun es : List (Value × Value) => NEED (MapAt st.L mv es ∧ mv ≠ .map none ∧ Keys d es) (MAPW st.L mv (mPut es key val) fun L' => k ({ st with L := L' }.putO o.dst ⟨[], .p (.v undef)⟩)) else STUCK 84
    | _, _, _, _ => STUCK 85
  | .call { callee := .builtin .delete, args := ⟨[x, ix]⟩, argTypes := ⟨[t, _]⟩ } => match (st.get [] x).toV, (st.get [] ix).toV, mapOf P t with
    | some mv, some key, some (_, _, d, _) => if isKeyB d key = true then EX fun es : List (Value × Value) => NEED (MapAt st.L mv es ∧ Keys d es) (MAPW st.L mv (mDel es key) fun L' => k ({ st with L := L' }.putO o.dst ⟨[], .p (.v (.tuple #[]))⟩)) else STUCK 86
    | _, _, _ => STUCK 87
  | .call { callee := .builtin .len, args := ⟨[x]⟩, argTypes := ⟨[t]⟩ } => match (st.get [] x).toV, mapOf P t with
    | some mv, some _ => EX fun es : List (Value × Value) => NEED (MapAt st.mem mv es) (k (st.putO o.dst ⟨[], .p (.v (.int .i64 (es.length : Int)))⟩))
    | _, _ => STUCK 88
  | .call { callee := .value x, args := args, argTypes := _ } => match (st.get [] x).toV, parts st args.toList with
    | some (.func (.func f) first cap), some vs => NEED (isFn P f = true) (CALL P f (first.toList ++ vs ++ cap.toList).toArray st.M st.L fun v M' L' => EXR (shR P f o.type) fun v' => NEED (v = v') (k ({ st with M := M', L := L' }.putO o.dst ⟨[], .p (.v v')⟩)))
    | some u, some vs => EX fun f : FuncId => EX fun first : List Value => EX fun cap : List Value => NEED (u = .func (.func f) first.toArray cap.toArray ∧ isFn P f = true)
        (CALL P f (first ++ vs ++ cap).toArray st.M st.L fun v M' L' => EXS (shOf P o.type) fun v' => NEED (v = v') (k ({ st with M := M', L := L' }.putO o.dst ⟨[], .p (.v v')⟩)))
    | _, _ => STUCK 90
  | _ => STUCK 10

/-- An append to a row that is one's own. -/
theorem run_grow {M L mem : Mem} {w : World} (h1 : Knows M w) (h2 : Knows L w) (h3 : ∀ k o, L k = some o → M k = none) (hmem : Knows mem w) {t ty e : TypeId} {size bytes : Nat} (hg : growOf P t = some (e, size, bytes))
    {v : Value} {n : Nat} {xs : List Value} (hown : OwnRow L e size v n xs) {A : Option Addr} {m c : Nat} {news : List Value} (hl : news.length = m * size) (hr : ReadsL mem A news) (hone : ∀ u ∈ news, u.oneCell' = true)
    (h63 : n + m ≤ maxLen) (hbytes : (n + m) * bytes ≤ 140737488355328) :
    ∃ A' c' w' L', (Builtin.append_ #[t, t] ty #[v, .slice A m c]).run P w = .ok (.slice A' (n + m) c') w' ∧ After M L w M L' w' ∧ OwnRow L' e size (.slice A' (n + m) c') (n + m) (xs ++ news) ∧ GREW M L v (.slice A' (n + m) c') L' := by
  unfold growOf at hg
  split at hg
  rotate_left
  · cases hg
  rename_i e' ht
  split at hg
  rotate_left
  · cases hg
  rename_i i hi
  split at hg
  rotate_left
  · cases hg
  rename_i z hz
  split at hg
  rotate_left
  · cases hg
  rename_i hif
  injection hg with hg
  injection hg with e1 hg
  injection hg with e2 e3
  subst e1 e2 e3
  obtain ⟨hzs, hsz⟩ := hif
  have hsmall : n + m ≤ 9223372036854775807 := by simp only [maxLen] at h63; omega
  have hlen : (xs ++ news).length = (n + m) * i.size := by rw [List.length_append, hown.1, hl, Nat.add_mul]
  have same : OwnRow L e' i.size v (n + 0) (xs ++ []) := by simpa using hown
  have hnil : m = 0 → (∃ A' c', v = .slice A' n c') → ∃ A' c' w' L', (Builtin.append_ #[t, t] ty #[v, .slice A m c]).run P w = .ok (.slice A' (n + m) c') w' ∧ After M L w M L' w' ∧ OwnRow L' e' i.size (.slice A' (n + m) c') (n + m) (xs ++ news) ∧ GREW M L v (.slice A' (n + m) c') L' := by
    rintro rfl ⟨A', c', hv⟩
    have hn : news = [] := List.eq_nil_of_length_eq_zero (by simpa using hl)
    subst hn
    refine ⟨A', c', w, L, ?_, .refl h1 h2 h3, by simp only [Nat.add_zero, List.append_nil]; rw [← hv]; exact hown, ⟨fun _ _ => rfl, fun g hg => .inl ⟨by rw [hv]; exact hg, by rw [hv]; rfl⟩, fun _ => rfl⟩⟩
    have hcap : n ≤ c' := by
      rcases hown.2 with ⟨A2, h4, h5⟩ | ⟨g, off, cap, cur, h4, _, h5, _⟩
      · rw [hv] at h4; simp at h4; omega
      · rw [hv] at h4; simp at h4; omega
    subst hv
    have hf : (Builtin.firstCells i.size 0 (.slice A 0 c)).run P w = .ok #[] w := by
      cases A with
      | none => simp [Builtin.firstCells]
      | some ad => simp [Builtin.firstCells, loadCells, loadCellsFrom]
    cases A' with
    | none => simp [Builtin.append_, run_underlying ht, sizeOf, typeInfo, hi, Builtin.lenOf, hcap, hf]
    | some ad => simp [Builtin.append_, run_underlying ht, sizeOf, typeInfo, hi, Builtin.lenOf, hcap, hf, storeCells]
  have hshape : ∃ A' c', v = .slice A' n c' := by
    rcases hown.2 with ⟨A2, rfl, rfl⟩ | ⟨g, off, cap, cur, rfl, _⟩
    · exact ⟨_, _, rfl⟩
    · exact ⟨_, _, rfl⟩
  by_cases hm : m = 0
  · exact hnil hm hshape
  have hA : ∃ a, A = some a ∧ ∀ j u, news[j]? = some u → w.cell? (a.add j) = some u := by
    rcases hr with rfl | ⟨a, e, hc⟩
    · have hpos : 0 < m * i.size := Nat.mul_pos (by omega) hsz
      rw [← hl] at hpos
      simp at hpos
    · exact ⟨a, e, fun j u hu => mcell_world hmem (hc j u hu)⟩
  obtain ⟨a, rfl, hnews⟩ := hA
  have grown : ∀ (old : Nat), ∃ L', After M L w M L' (w.drew.alloc (.cells (xs.toArray ++ news.toArray ++ Builtin.zeroCells z.cells (grownCap w (n + m) old e' - (n + m))) e')) ∧
      OwnRow L' e' i.size (.slice (some ⟨w.heap.size, 0, none⟩) (n + m) (grownCap w (n + m) old e')) (n + m) (xs ++ news) ∧ GREW M L v (.slice (some ⟨w.heap.size, 0, none⟩) (n + m) (grownCap w (n + m) old e')) L' := by
    intro old
    have hge := grownCap_ge w (n + m) old e'
    have hcm : grownCap w (n + m) old e' ≤ maxLen := grownCap_le_maxLen w (n + m) old e' h63
    obtain ⟨ha, hL, hM⟩ := After.new (w := w.drew) h1 h2 h3 (.cells (xs.toArray ++ news.toArray ++ Builtin.zeroCells z.cells (grownCap w (n + m) old e' - (n + m))) e')
    refine ⟨_, ⟨ha.le, ha.know, ha.lin, ha.disj, ha.newM, ha.newL, ha.os, ha.tape, ha.output, ha.size, ha.frame⟩, ⟨hlen, .inr ⟨w.heap.size, 0, _, _, rfl, Mem.upd_self _ _ _, hge, hcm, ?_, ?_⟩⟩, ⟨fun k hk => Mem.upd_ne _ _ (fun e => hk (by rw [e]; rfl)), fun g hg => .inr (by
      have : g = w.heap.size := by simp [Value.ownBlock] at hg; omega
      subst this
      exact ⟨hL, hM⟩), fun h0 => absurd h0 (by
      have : 0 < n + m := by omega
      show grownCap w (n + m) old e' ≠ 0
      omega)⟩⟩
    · simp only [Array.size_append, List.size_toArray, size_zeroCells, hzs, hown.1, hl, ← Nat.add_mul]
      have : n + m + (grownCap w (n + m) old e' - (n + m)) = grownCap w (n + m) old e' := by omega
      rw [this]; omega
    · simp only [Array.toList_append, List.append_assoc, List.drop_zero]
      rw [← List.append_assoc, ← hlen]
      exact List.take_left
  rcases hown.2 with ⟨A2, rfl, rfl⟩ | ⟨g, off, cap, cur, rfl, hgL, hnc, hcm, hcs, htake⟩
  · have hx : xs = [] := List.eq_nil_of_length_eq_zero (by simpa using hown.1)
    subst hx
    obtain ⟨L', q1, q2, q3⟩ := grown 0
    simp only [Nat.zero_add, List.nil_append, Array.empty_append] at q1 q2 q3 ⊢
    cases A2 with
    | none =>
      have hr := run_append_nil (P := P) w t ty e' i z ht hi hz a m c news hl hnews (by omega) (by omega) (by have hb := hbytes; simp only [Nat.zero_add] at hb; omega)
      exact ⟨_, _, _, L', hr, q1, q2, q3⟩
    | some b =>
      have hr := run_append_grow (P := P) w t ty e' i z ht hi hz b 0 0 [] (by simp) (fun j u hu => by simp at hu) a m c news hl hnews (by omega) (by omega) (growslice_fits (by omega) hbytes)
      simp only [Nat.zero_add, Array.empty_append] at hr
      exact ⟨_, _, _, L', hr, q1, q2, q3⟩
  · have hg := h2 g _ hgL
    by_cases hroom : n + m ≤ cap
    · have hmul : (n + m) * i.size ≤ cap * i.size := Nat.mul_le_mul_right _ hroom
      rw [Nat.add_mul] at hmul
      have hfit : off + n * i.size + news.length ≤ cur.size := by rw [hl]; omega
      have hf := run_firstCells_some (P := P) w i.size m a m c news hl hnews
      have hst := run_storeCells_at P g (off + n * i.size) e' news 0 cur w hg (by simpa using hfit) hone
      simp only [Nat.add_zero] at hst
      have hr : (Builtin.append_ #[t, t] ty #[.slice (some ⟨g, off, none⟩) n cap, .slice (some a) m c]).run P w = .ok (.slice (some ⟨g, off, none⟩) (n + m) cap) (w.setRow g (cur.toList.take (off + n * i.size) ++ news ++ cur.toList.drop (off + n * i.size + news.length)).toArray) := by
        simp [Builtin.append_, run_underlying ht, sizeOf, typeInfo, hi, Builtin.lenOf, hroom, hf, Addr.add_lit, hst]
      refine ⟨_, _, _, _, hr, After.write h1 h2 h3 hgL, ⟨hlen, .inr ⟨g, off, cap, _, rfl, Mem.upd_self _ _ _, hroom, hcm, ?_, ?_⟩⟩, ⟨fun k hk => Mem.upd_ne _ _ (fun e => hk (by rw [e]; rfl)), fun g' hg' => .inl ⟨hg', rfl⟩, fun h0 => by
        have : cap = 0 := h0
        omega⟩⟩
      · simp only [List.size_toArray, List.length_append, List.length_take, List.length_drop, Array.length_toList]
        omega
      · have hk : (cur.toList.take (off + n * i.size)).drop off = xs := by
          rw [← htake, List.drop_take]; congr 1; omega
        have hl2 : (cur.toList.take (off + n * i.size)).length = off + n * i.size := by rw [List.length_take, Array.length_toList]; omega
        rw [List.append_assoc, List.drop_append_of_le_length (by rw [hl2]; omega), hk, ← List.append_assoc, ← hlen]
        exact List.take_left
    · have holds : ∀ j u, xs[j]? = some u → w.cell? ((⟨g, off, none⟩ : Addr).add j) = some u := by
        intro j u hu
        rw [own_add]
        simp only [World.cell?, hg]
        rw [← htake, List.getElem?_take] at hu
        split at hu
        · rw [List.getElem?_drop] at hu; simpa using hu
        · cases hu
      have hr := run_append_grow (P := P) w t ty e' i z ht hi hz ⟨g, off, none⟩ n cap xs hown.1 holds a m c news hl hnews (by omega) (by omega) (growslice_fits (by omega) hbytes)
      obtain ⟨L', q1, q2, q3⟩ := grown cap
      exact ⟨_, _, _, L', hr, q1, q2, q3⟩
theorem doMore_sound {o : Oper} {k : St → Prop} {K : Act → World → Prop} {Q : Exit → Act → World → Prop} (h : Inv Z w0 st a w ε) (he : doMore P o k st)
    (hK : ∀ st' a' w' ε', Inv Z w0 st' a' w' ε' → st.M.le st'.M → Stp o st w ε st' w' ε' → k st' → K a' w') : o.wp P a w K Q := by
  have hnil : Holds a [] := HoldsT.nil _
  unfold doMore at he
  split at he
  all_goals rename_i hop
  · rename_i t len ps
    split at he
    · rename_i vs e size z hvs hz
      split at he
      · rename_i hif
        obtain ⟨h1, h2, h3, h4⟩ := hif
        unfold elemZero at hz
        split at hz
        rotate_left
        · cases hz
        rename_i e' hu
        split at hz
        rotate_left
        · cases hz
        rename_i ie hie
        split at hz
        rotate_left
        · cases hz
        rename_i z' hzz
        injection hz with hz
        injection hz with e1 hz
        injection hz with e2 e3
        subst e1 e2 e3
        have hp := parts_spec h hvs
        obtain ⟨h5, h6, h7⟩ := litOk_spec a.eval h1 hp
        have hlen : vs.length = len := by rw [h7, ← h2]; simp
        have hfill := Great.fill_whole (s := ie.size) (by rcases Nat.eq_zero_or_pos ie.size with h0 | h0; · rw [h0] at h4; omega
                                                          · exact h0) vs ((Array.range (len * ie.size)).map (z'.cells[· % z'.cells.size]!)) h6 (by simp [hlen])
        have hrun := run_buildSlice (P := P) w t e' len (ps.map fun (i, x) => (i, a.eval x)) _ ie z' hu hie hzz (by omega) (by omega) (by
          rw [Array.toList_map, h5]; exact hfill)
        obtain ⟨ha, hL, hM⟩ := After.newM' h.hp.know h.hp.lin h.hp.disj (.cells (litCells vs).toArray e')
        refine eff_sound h (v := .slice (some ⟨w.heap.size, 0, none⟩) len len) (by unfold execOp; simp only [hop, Sem.run_bind, hrun, Result.andThen_ok, Sem.run_pure]; rfl) ha (he.all _ hM hL) hK
      · cases he
    · cases he
  · rename_i s x t t'
    split at he
    · rename_i v A m e size bytes hv hx hg
      split at he
      · rename_i htt
        subst htt
        obtain ⟨n, xs, news, g1, g2, g3, g4, g5, g6, hnext⟩ := he
        have e1 := AV.toV_spec hv (h.get hnil s)
        have e2 : ∃ c, a.eval x = .slice A m c := by
          unfold bOfL at hx
          split at hx
          · rename_i A' n' c' hxx
            injection hx with hx
            injection hx with hx1 hx2
            subst hx1 hx2
            have := h.get hnil x
            rw [hxx] at this
            exact ⟨c', this⟩
          · cases hx
        obtain ⟨c, e2⟩ := e2
        obtain ⟨A', c', w', L', hrun, ha, hown, hgrew⟩ := run_grow (P := P) (ty := o.type) (c := c) h.hp.know h.hp.lin h.hp.disj h.mem hg g1 g2 g3 g4 g5 g6
        refine eff_sound h (v := .slice A' (n + m) c') (by simp [execOp, hop, resolve, invoke, builtin, e1, e2, hrun]) ha (hnext _ _ _ hown hgrew) hK
      · cases he
    · cases he
  · rename_i fn first cap
    split at he
    · rename_i vs us hvs hus
      have q1 : first.map a.eval = vs.toArray := by rw [← parts_spec h hvs]; apply Array.ext'; simp
      have q2 : cap.map a.eval = us.toArray := by rw [← parts_spec h hus]; apply Array.ext'; simp
      refine eff_sound h (v := .func fn vs.toArray us.toArray) (by simp [execOp, hop, Instr.makeFunc, q1, q2]) (.refl h.hp.know h.hp.lin h.hp.disj) he hK
    · cases he
  · rename_i t x y
    split at he
    · rename_i A j cs hx hcs
      split at he
      · rename_i vs hvs
        split at he
        · rename_i hif
          obtain ⟨hs, hv⟩ := AV.cellsP_spec hcs (h.get hnil y)
          have e1 := pvs_spec hvs
          have hcell : (a.eval y).cells.toList = vs := by
            apply List.ext_getElem
            · simp [hs, e1]
            · intro i h1 h2
              have := hv i (.v vs[i]) ((a.eval y).cells.toList[i]) (by rw [e1]; simp [List.getElem?_eq_getElem h2]) (by simp at h1; simp [h1])
              exact this
          obtain ⟨ad, w', L', e2, hrun, ha, hk⟩ := run_write (P := P) (t := t) h.hp.know h.hp.lin h.hp.disj he hcell (fun u hu => by
            obtain ⟨i, hi, rfl⟩ := List.getElem_of_mem hu
            exact PV.one_spec (ε := ε) (List.all_eq_true.1 hif.2 (.v vs[i]) (by rw [e1]; exact List.mem_map_of_mem hu)) rfl) hif.1
          have e3 := ptrOf_spec hx (h.get hnil x) ad e2
          exact eff_skip h (by simp [execOp, hop, e3, hrun]) ha hk hK
        · cases he
      · cases he
    · cases he
  · rename_i t
    split at he
    · rename_i z hz
      have hi : ∃ i, P.info? t = some i ∧ i.zero = some z := by
        cases hx : P.info? t with
        | none => rw [hx] at hz; cases hz
        | some i => rw [hx] at hz; exact ⟨i, rfl, hz⟩
      obtain ⟨i, hi, hz'⟩ := hi
      have hrun : (execOp a.eval o).run P w = .ok (.value (.pointer (some ⟨w.heap.size, 0, none⟩))) (w.alloc (.cells z.cells t)) := by
        simp [execOp, hop, Instr.alloc, zeroValue, typeInfo, hi, hz', newVar, newRow, newObj]
        rfl
      obtain ⟨ha, hL, hM⟩ := After.new h.hp.know h.hp.lin h.hp.disj (.cells z.cells t)
      exact eff_sound h hrun ha (he.all _ hM hL) hK
    · cases he
  · rename_i t x
    split at he
    · rename_i cs hcs
      split at he
      · rename_i vs hvs
        obtain ⟨hs, hv⟩ := AV.cellsP_spec hcs (h.get hnil x)
        have e1 := pvs_spec hvs
        have hcell : (a.eval x).cells = vs.toArray := by
          apply Array.ext'
          apply List.ext_getElem
          · simp [hs, e1]
          · intro i h1 h2
            have := hv i (.v vs[i]) ((a.eval x).cells.toList[i]) (by rw [e1]; simp [List.getElem?_eq_getElem (show i < vs.length by simpa using h2)]) (by simp at h1; simp [h1])
            exact this
        have hrun : (execOp a.eval o).run P w = .ok (.value (.pointer (some ⟨w.heap.size, 0, none⟩))) (w.alloc (.cells vs.toArray t)) := by
          rw [← hcell]
          simp [execOp, hop, Instr.box, newVar, newRow, newObj]
          rfl
        obtain ⟨ha, hL, hM⟩ := After.new h.hp.know h.hp.lin h.hp.disj (.cells vs.toArray t)
        exact eff_sound h hrun ha (he.all _ hM hL) hK
      · cases he
    · cases he
  · rename_i t
    have hrun : (execOp a.eval o).run P w = .ok (.value (.map (some w.heap.size))) (w.alloc (.map #[] 0)) := by
      simp [execOp, hop, run_makeMap]
    obtain ⟨ha, hL, hM⟩ := After.new h.hp.know h.hp.lin h.hp.disj (.map #[] 0)
    exact eff_sound h hrun ha (he.all _ hM hL) hK
  · rename_i t x ix c
    split at he
    · rename_i mv key kt et d z hmv hkey hm
      split at he
      · rename_i hk
        obtain ⟨es, ⟨ok, hv⟩⟩ := he
        obtain ⟨v, ⟨⟨q1, q2, q3, q4⟩, hnext⟩⟩ := EXS_spec hv
        unfold mapOf at hm
        split at hm
        rotate_left
        · cases hm
        rename_i kt' et' hu
        split at hm
        rotate_left
        · cases hm
        rename_i d' hd
        split at hm
        rotate_left
        · cases hm
        rename_i z' hz
        injection hm with hm; injection hm with e1 hm; injection hm with e2 hm; injection hm with e3 e4
        subst e1 e2 e3 e4
        have hrun := run_look (P := P) h.mem hu hd hz q1 q2 (isKeyB_spec hk) q3 q4 c
        rw [← AV.toV_spec hmv (h.get hnil x), ← AV.toV_spec hkey (h.get hnil ix)] at hrun
        cases c with
        | true => exact eff_sound h (v := .tuple #[v, .bool ok]) (by simp [execOp, hop, hrun]) (.refl h.hp.know h.hp.lin h.hp.disj) hnext hK
        | false => exact eff_sound h (v := v) (by simp [execOp, hop, hrun]) (.refl h.hp.know h.hp.lin h.hp.disj) hnext hK
      · cases he
    · cases he
  · rename_i t x ix y
    split at he
    · rename_i mv key val kt et d z hmv hkey hval hm
      split at he
      · rename_i hk
        obtain ⟨es, ⟨⟨q1, q2, q3⟩, hnext⟩⟩ := he
        unfold mapOf at hm
        split at hm
        rotate_left
        · cases hm
        rename_i kt' et' hu
        split at hm
        rotate_left
        · cases hm
        rename_i d' hd
        split at hm
        rotate_left
        · cases hm
        rename_i z' hz
        injection hm with hm; injection hm with e1 hm; injection hm with e2 hm; injection hm with e3 e4
        subst e1 e2 e3 e4
        obtain ⟨w', L', hrun, ha, q4, q5⟩ := run_mput (P := P) (val := val) h.hp.know h.hp.lin h.hp.disj hu hd q1 q2 q3 (isKeyB_spec hk)
        rw [← AV.toV_spec hmv (h.get hnil x), ← AV.toV_spec hkey (h.get hnil ix), ← AV.toV_spec hval (h.get hnil y)] at hrun
        exact eff_skip h (by simp [execOp, hop, hrun]) ha (hnext.all L' q4 q5) hK
      · cases he
    · cases he
  · rename_i x ix t t'
    split at he
    · rename_i mv key kt et d z hmv hkey hm
      split at he
      · rename_i hk
        obtain ⟨es, ⟨⟨q1, q3⟩, hnext⟩⟩ := he
        unfold mapOf at hm
        split at hm
        rotate_left
        · cases hm
        rename_i kt' et' hu
        split at hm
        rotate_left
        · cases hm
        rename_i d' hd
        split at hm
        rotate_left
        · cases hm
        rename_i z' hz
        injection hm with hm; injection hm with e1 hm; injection hm with e2 hm; injection hm with e3 e4
        subst e1 e2 e3 e4
        obtain ⟨w', L', hrun, ha, q4, q5⟩ := run_mdel (P := P) (t' := t') (ty := o.type) h.hp.know h.hp.lin h.hp.disj hu hd q1 q3 (isKeyB_spec hk)
        exact eff_sound h (v := .tuple #[]) (by simp [execOp, hop, resolve, invoke, builtin, AV.toV_spec hmv (h.get hnil x), AV.toV_spec hkey (h.get hnil ix), hrun]) ha (hnext.all L' q4 q5) hK
      · cases he
    · cases he
  · rename_i x t
    split at he
    · rename_i mv kt et d z hmv hm
      obtain ⟨es, ⟨q1, hnext⟩⟩ := he
      unfold mapOf at hm
      split at hm
      rotate_left
      · cases hm
      rename_i kt' et' hu
      have hrun := run_mlen (P := P) (ty := o.type) h.mem hu q1
      exact eff_sound h (v := .int .i64 (es.length : Int)) (by simp [execOp, hop, resolve, invoke, builtin, AV.toV_spec hmv (h.get hnil x), hrun]) (.refl h.hp.know h.hp.lin h.hp.disj) hnext hK
    · cases he
  · rename_i x args ts
    have hargs : ∀ {vs : List Value}, parts st args.toList = some vs → args.map a.eval = vs.toArray := by
      intro vs hvs
      rw [← parts_spec h hvs]
      apply Array.ext'
      simp
    split at he
    · rename_i f first cap vs hx hvs
      exact call_sound h hop rfl (AV.toV_spec hx (h.get hnil x)) (hargs hvs) he.need (sh := fun v p => EXR (shR P f o.type) fun v' => NEED (v = v') (p v')) (fun v p hv => by obtain ⟨v', h1, h2⟩ := EXR_spec hv; exact ⟨v', h1, h2⟩) he.rest hK
    · rename_i u vs _ hx hvs
      obtain ⟨f, ⟨first, ⟨cap, ⟨⟨q1, q2⟩, hc⟩⟩⟩⟩ := he
      exact call_sound h hop rfl (by rw [AV.toV_spec hx (h.get hnil x), q1]) (hargs hvs) q2 (sh := fun v p => EXS (shOf P o.type) fun v' => NEED (v = v') (p v')) (fun v p hv => by obtain ⟨v', h1, h2⟩ := EXS_spec hv; exact ⟨v', h1, h2⟩) hc hK
    · cases he
  · cases he
end
end Go.Proofs.YthaamalgeieijabDoor
