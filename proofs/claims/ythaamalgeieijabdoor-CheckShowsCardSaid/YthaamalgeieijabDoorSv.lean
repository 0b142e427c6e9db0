/- The symbolic executor: what steps leave alone, told of memory. No condition. -/
import Derived.Test.YthaamalgeieijabDoorSz
set_option linter.unusedVariables false
set_option linter.unusedSimpArgs false
namespace Go.Proofs.YthaamalgeieijabDoor
open Go.RowKit

section
variable {P : Program} {Z : Zn} {w0 w : World} {st : St} {a : Act} {ε : Env}

/-! ### What the world has become -/
/-- A step, told of memory: own boxes stay. -/
theorem Hp.step {boxes : List (Nat × (TypeId × List PV))} {M L M' L' : Mem} {w' : World} (h : Hp Z w0 boxes M L w ε) (hb : After M L w M' L' w') : Hp Z w0 boxes M' L' w' ε where
  box := fun i t cs hi => by
    obtain ⟨vs, hv, hs, hc⟩ := h.box i t cs hi
    exact ⟨vs, (hb.frame _ (h.lt_box hi) (h.boxMine i _ hi).2.2).trans hv, hs, hc⟩
  boxMine := fun i o hi => by
    obtain ⟨h1, h2, h3⟩ := h.boxMine i o hi
    have hlt := h.lt_box hi
    refine ⟨h1, ?_, ?_⟩
    · cases hx : M' (ε.bx i) with
      | none => rfl
      | some o' =>
        rcases hb.newM _ _ hx with h4 | h4 | h4
        · rw [h2] at h4; cases h4
        · exact absurd h3 h4
        · omega
    · cases hx : L' (ε.bx i) with
      | none => rfl
      | some o' =>
        rcases hb.newL _ _ hx with h4 | h4
        · exact absurd h3 h4
        · omega
  boxInj := h.boxInj
  lin := hb.lin
  linMine := fun k o hk => ⟨by
    rcases hb.newL k o hk with h1 | h1
    · cases hx : L k with
      | none => exact absurd hx h1
      | some o' => exact (h.linMine k o' hx).1
    · exact .inl (Nat.le_trans h.hsize h1), hb.disj k o hk⟩
  know := hb.know
  fresh := fun k o hx => by
    rcases hb.newM k o hx with h1 | h1 | h1
    · exact h.fresh k o h1
    · cases hy : L k with
      | none => exact absurd hy h1
      | some o' => exact .inr ((h.linMine k o' hy).1.elim .inr .inl)
    · exact .inr (.inr (Nat.le_trans h.hsize h1))
  os := hb.os.trans h.os
  tape := hb.tape.trans h.tape
  output := hb.output.trans h.output
  hsize := Nat.le_trans h.hsize hb.size
  frame := fun k hk hz => (hb.frame k (Nat.lt_of_lt_of_le hk h.hsize) (by
    cases hx : L k with
    | none => rfl
    | some o => exact (h.linMine k o hx).1.elim (fun h1 => by omega) (fun h1 => absurd h1 hz))).trans (h.frame k hk hz)
theorem Hp.disj {boxes : List (Nat × (TypeId × List PV))} {M L : Mem} (h : Hp Z w0 boxes M L w ε) : ∀ k o, L k = some o → M k = none := fun k o hk => (h.linMine k o hk).2
/-- Memory that may be read. -/
def St.mem (st : St) : Mem := match st.q with
  | true => st.M
  | false => st.M.or st.L
theorem Inv.mem (h : Inv Z w0 st a w ε) : Knows st.mem w := by
  unfold St.mem
  cases st.q with
  | true => exact h.hp.know
  | false => exact Knows.or h.hp.know h.hp.lin
def Mem.upd (L : Mem) (g : Nat) (o : Obj) : Mem := fun k => if k = g then some o else L k
theorem Mem.upd_self (L : Mem) (g : Nat) (o : Obj) : L.upd g o g = some o := by simp [Mem.upd]
theorem Mem.upd_ne (L : Mem) {g k : Nat} (o : Obj) (h : k ≠ g) : L.upd g o k = L k := by simp [Mem.upd, h]
theorem After.refl {M L : Mem} {w : World} (h1 : Knows M w) (h2 : Knows L w) (h3 : ∀ k o, L k = some o → M k = none) : After M L w M L w :=
  { le := Mem.le_refl _, know := h1, lin := h2, disj := h3, newM := fun _ _ h => .inl h, newL := fun _ _ h => .inl (by rw [h]; simp), os := rfl, tape := rfl, output := rfl, size := Nat.le_refl _, frame := fun _ _ _ => rfl }
/-- A block that is lent or own gets other cells. -/
theorem After.write {M L : Mem} {w : World} (h1 : Knows M w) (h2 : Knows L w) (h3 : ∀ k o, L k = some o → M k = none) {g : Nat} {c c' : Array Value} {t : TypeId} (hg : L g = some (.cells c t (0, 0))) : After M L w M (L.upd g (.cells c' t (0, 0))) (w.setRow g c') :=
  { le := Mem.le_refl _
    know := fun k o hk => by
      rw [setRow_other]
      · exact h1 k o hk
      · intro e; subst e; have := h3 _ _ hg; rw [this] at hk; cases hk
    lin := fun k o hk => by
      by_cases hkg : k = g
      · subst hkg
        rw [Mem.upd_self] at hk
        injection hk with hk
        subst hk
        exact setRow_heap w _ c c' t _ (h2 _ _ hg)
      · rw [Mem.upd_ne _ _ hkg] at hk
        rw [setRow_other _ _ _ _ hkg]
        exact h2 k o hk
    disj := fun k o hk => by
      by_cases hkg : k = g
      · subst hkg; exact h3 _ _ hg
      · rw [Mem.upd_ne _ _ hkg] at hk; exact h3 k o hk
    newM := fun _ _ h => .inl h
    newL := fun k o hk => .inl (by
      by_cases hkg : k = g
      · subst hkg; rw [hg]; simp
      · rw [Mem.upd_ne _ _ hkg] at hk; rw [hk]; simp)
    os := rfl, tape := rfl, output := rfl, size := by simp
    frame := fun k hk hn => setRow_other _ _ _ _ (fun e => by subst e; rw [hg] at hn; cases hn) }
/-- A new block, one's own. -/
theorem After.new {M L : Mem} {w : World} (h1 : Knows M w) (h2 : Knows L w) (h3 : ∀ k o, L k = some o → M k = none) (o : Obj) : After M L w M (L.upd w.heap.size o) (w.alloc o) ∧ L w.heap.size = none ∧ M w.heap.size = none := by
  have hM : M w.heap.size = none := by
    cases hx : M w.heap.size with
    | none => rfl
    | some o => have := (Array.getElem?_eq_some_iff.1 (h1 _ _ hx)).1; omega
  have hL : L w.heap.size = none := by
    cases hx : L w.heap.size with
    | none => rfl
    | some o => have := (Array.getElem?_eq_some_iff.1 (h2 _ _ hx)).1; omega
  refine ⟨{
    le := Mem.le_refl _
    know := fun k o hk => (Below.heap_alloc _ _ _ (Array.getElem?_eq_some_iff.1 (h1 _ _ hk)).1).trans (h1 k o hk)
    lin := fun k o' hk => by
      by_cases hkg : k = w.heap.size
      · subst hkg
        rw [Mem.upd_self] at hk
        injection hk with hk
        subst hk
        exact heap_alloc_new w _
      · rw [Mem.upd_ne _ _ hkg] at hk
        exact (Below.heap_alloc _ _ _ (Array.getElem?_eq_some_iff.1 (h2 _ _ hk)).1).trans (h2 k o' hk)
    disj := fun k o hk => by
      by_cases hkg : k = w.heap.size
      · subst hkg; exact hM
      · rw [Mem.upd_ne _ _ hkg] at hk; exact h3 k o hk
    newM := fun _ _ h => .inl h
    newL := fun k o hk => by
      by_cases hkg : k = w.heap.size
      · exact .inr (by omega)
      · rw [Mem.upd_ne _ _ hkg] at hk; exact .inl (by rw [hk]; simp)
    os := rfl, tape := rfl, output := rfl, size := by simp
    frame := fun k hk _ => Below.heap_alloc _ _ _ hk }, hL, hM⟩

/-- What one operation leaves alone. -/
structure Stp (o : Oper) (st : St) (w : World) (ε : Env) (st' : St) (w' : World) (ε' : Env) : Prop where
  bx : ∀ i, o.dst ≠ some i → ε'.bx i = ε.bx i
  heap : ∀ g, g < w.heap.size → st.L g = none → (∃ t x y, o.op = .store t x y) ∨ w'.heap[g]? = w.heap[g]?
  lin : ∀ g, g < w.heap.size → st.L g = none → st'.L g = none
theorem putO_L (st : St) (d : Option Nat) (x : SV) : (st.putO d x).L = st.L := by cases d <;> rfl
theorem Stp.same {o : Oper} {st st' : St} {w : World} {ε : Env} (h : st'.L = st.L) : Stp o st w ε st' w ε := ⟨fun _ _ => rfl, fun _ _ _ => .inr rfl, fun g _ hg => by rw [h]; exact hg⟩
theorem Stp.after {o : Oper} {st st' : St} {w w' : World} {ε : Env} (h : After st.M st.L w st'.M st'.L w') : Stp o st w ε st' w' ε := ⟨fun _ _ => rfl, fun g hg hL => .inr (h.frame g hg hL), fun g hg hL => by
  cases hx : st'.L g with
  | none => rfl
  | some o =>
    rcases h.newL g o hx with h1 | h1
    · exact absurd hL h1
    · omega⟩
theorem putO_M (st : St) (d : Option Nat) (x : SV) : (st.putO d x).M = st.M := by cases d <;> rfl
theorem putO_le (st : St) (d : Option Nat) (x : SV) : st.M.le (st.putO d x).M := by rw [putO_M]; exact Mem.le_refl _

end
end Go.Proofs.YthaamalgeieijabDoor
