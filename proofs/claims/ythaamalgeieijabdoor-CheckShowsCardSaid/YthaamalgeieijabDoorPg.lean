/- Rows of one's own that grow; reading what is lent. No condition. -/
import Derived.Test.YthaamalgeieijabDoorPa
set_option linter.unusedVariables false
set_option linter.unusedSimpArgs false
namespace Go.Proofs.YthaamalgeieijabDoor
open Go

/-- What only reads may read what is lent too. -/
theorem PureQ.borrow {P : Program} {f : FuncId} {args : Array Value} {M L : Mem} {Q : Value → Prop} (h : PureQ P f args (Mem.or M L) (fun _ => none) Q) : PureQ P f args M L Q := by
  intro w h1 h2 h3
  refine (h w (h1.or h2) (fun k o hk => by cases hk) (fun k o hk => by cases hk)).mono ?_
  rintro e w' ⟨v, M', L', rfl, ha, hq, rfl, rfl⟩
  refine ⟨v, M, L, rfl, { le := Mem.le_refl _, know := fun k o hk => ha.know k o (Mem.le_or M L k o hk), lin := fun k o hk => ha.know k o (by simp [Mem.or, h3 k o hk, hk]), disj := h3, newM := fun k o hk => .inl hk, newL := fun k o hk => .inl (by rw [hk]; simp), os := ha.os, tape := ha.tape, output := ha.output, size := ha.size, frame := fun k hk _ => ha.frame k hk rfl }, hq, rfl, rfl⟩
theorem Pure.borrow {P : Program} {f : FuncId} {args : Array Value} {M L : Mem} {v : Value} (h : Pure P f args (Mem.or M L) (fun _ => none) v) : Pure P f args M L v :=
  PureQ.borrow (Q := fun v' => v' = v) h
def flatV {α : Type} (toV : α → Value) (l : List α) : List Value := l.flatMap fun x => (toV x).cells.toList
theorem flatV_append {α : Type} {toV : α → Value} {l l' : List α} : flatV toV (l ++ l') = flatV toV l ++ flatV toV l' := by simp [flatV]
theorem flatV_length {α : Type} {toV : α → Value} {size : Nat} (hf : ∀ x, (toV x).cells.size = size) : ∀ (l : List α), (flatV toV l).length = l.length * size
  | [] => by simp [flatV]
  | x :: l => by
    have := flatV_length hf l
    simp only [flatV, List.flatMap_cons, List.length_append, Array.length_toList, hf] at this ⊢
    rw [this, List.length_cons, Nat.add_mul]; omega
theorem flatV_get {α : Type} {toV : α → Value} {size : Nat} (hf : ∀ x, (toV x).cells.size = size) : ∀ (l : List α) (i j : Nat) (hi : i < l.length), j < size → (flatV toV l)[i * size + j]? = (toV l[i]).cells[j]?
  | x :: l, 0, j, hi, hj => by
    simp only [flatV, List.flatMap_cons, Nat.zero_mul, Nat.zero_add]
    rw [List.getElem?_append_left (by rw [Array.length_toList, hf]; exact hj)]
    simp
  | x :: l, i + 1, j, hi, hj => by
    have := flatV_get hf l i j (by simpa using hi) hj
    simp only [flatV, List.flatMap_cons] at this ⊢
    rw [List.getElem?_append_right (by rw [Array.length_toList, hf, Nat.add_mul]; omega), Array.length_toList, hf]
    rw [show (i + 1) * size + j - size = i * size + j by rw [Nat.add_mul]; omega, this]
    simp
/-- A row of one's own, in memory that was lent besides. -/
structure Owns {α : Type} (L0 M L : Mem) (toV : α → Value) (e : TypeId) (size : Nat) (A : Option Addr) (c : Nat) (items : List α) : Prop where
  le : L0.le L
  row : OwnRow L e size (.slice A items.length c) items.length (flatV toV items)
  off : ∀ g, c ≠ 0 → (Value.slice A items.length c).ownBlock = some g → M g = none ∧ L0 g = none
theorem Owns.nil {α : Type} {M L : Mem} {toV : α → Value} {e : TypeId} {size : Nat} : Owns L M L toV e size none 0 ([] : List α) :=
  ⟨Mem.le_refl _, ⟨by simp [flatV], .inl ⟨_, rfl, rfl⟩⟩, fun g _ hg => by cases hg⟩
theorem Owns.there {α : Type} {L0 M L : Mem} {toV : α → Value} {e : TypeId} {size : Nat} {A : Option Addr} {c : Nat} {items : List α} (h : Owns L0 M L toV e size A c items) : ∀ g, c ≠ 0 → (Value.slice A items.length c).ownBlock = some g → L g ≠ none := by
  intro g hc hg
  rcases h.row.2 with ⟨_, h1, _⟩ | ⟨g', off, cap, cur, h1, h2, _⟩
  · injection h1 with _ _ h1; exact absurd h1 hc
  · rw [h1] at hg
    have : g' = g := by simpa [Value.ownBlock] using hg
    rw [← this, h2]; simp
theorem Owns.newM {α : Type} {L0 M L : Mem} {toV : α → Value} {e : TypeId} {size : Nat} {A : Option Addr} {c : Nat} {items : List α} (h : Owns L0 M L toV e size A c items) {g : Nat} {o : Obj} (hL : L g = none) : Owns L0 (M.upd g o) L toV e size A c items :=
  ⟨h.le, h.row, fun k hc hk => ⟨by rw [Mem.upd_ne _ _ (fun e => h.there k hc hk (by rw [e]; exact hL))]; exact (h.off k hc hk).1, (h.off k hc hk).2⟩⟩
/-- Other blocks that are owned may be written. -/
theorem Owns.other {α : Type} {L0 M L L' : Mem} {toV : α → Value} {e : TypeId} {size : Nat} {A : Option Addr} {c : Nat} {items : List α} (h : Owns L0 M L toV e size A c items) (hle : L0.le L') (ho : ∀ g, c ≠ 0 → (Value.slice A items.length c).ownBlock = some g → L' g = L g) : Owns L0 M L' toV e size A c items :=
  ⟨hle, ⟨h.row.1, by
    rcases h.row.2 with h1 | ⟨g, off, cap, cur, h1, h2, h3⟩
    · exact .inl h1
    · by_cases hc : c = 0
      · injection h1 with _ _ h1
        have : items.length = 0 := by have := h3.1; omega
        subst hc
        exact .inl ⟨A, by rw [this], this⟩
      · exact .inr ⟨g, off, cap, cur, h1, by rw [ho g hc (by rw [h1]; rfl)]; exact h2, h3⟩⟩, h.off⟩
theorem Owns.lt {α : Type} {L0 M L : Mem} {toV : α → Value} {e : TypeId} {size : Nat} {A : Option Addr} {c : Nat} {items : List α} (h : Owns L0 M L toV e size A c items) : items.length ≤ c ∧ c ≤ maxLen := by
  rcases h.row.2 with ⟨_, h1, h2⟩ | ⟨g, off, cap, cur, h1, _, h3, h4, _⟩
  · injection h1 with _ _ h1; omega
  · injection h1 with _ _ h1; omega
theorem Owns.read {α : Type} {L0 M L : Mem} {toV : α → Value} {e : TypeId} {size : Nat} {A : Option Addr} {c : Nat} {items : List α} (h : Owns L0 M L toV e size A c items) (hf : ∀ x, (toV x).cells.size = size) : Row (Mem.or M L) toV size A c items := by
  refine ⟨h.lt.1, h.lt.2, fun i hi => ?_⟩
  rcases h.row.2 with ⟨_, h1, h2⟩ | ⟨g, off, cap, cur, h1, h2, h3, h4, h5, h6⟩
  · omega
  · have hg := h.off g (by have := h.lt.1; omega) (by rw [h1]; rfl)
    injection h1 with hA _ _
    subst hA
    refine ⟨_, rfl, fun j u hu => ?_⟩
    have hj : j < size := by have := (Array.getElem?_eq_some_iff.1 hu).1; rw [hf] at this; exact this
    rw [own_add]
    simp only [mcell, Mem.or, hg.1, h2]
    have hget := flatV_get hf items i j hi hj
    rw [← h6, List.getElem?_take] at hget
    have hlt : i * size + j < items.length * size := by
      have : (i + 1) * size ≤ items.length * size := Nat.mul_le_mul_right _ hi
      rw [Nat.add_mul] at this; omega
    rw [if_pos hlt, List.getElem?_drop] at hget
    simp only [Option.isSome_none, Bool.false_eq_true, if_false]
    rw [← hu, ← hget]; simp
/-- What is left of a row of one's own behind its first thing. -/
theorem Owns.tail {α : Type} {L0 M L : Mem} {toV : α → Value} {e : TypeId} {size : Nat} {A : Option Addr} {c : Nat} {x : α} {items : List α} (h : Owns L0 M L toV e size A c (x :: items)) (hf : ∀ x, (toV x).cells.size = size) :
    Owns L0 M L toV e size (if c = 1 then A else A.map fun a => a.add size) (c - 1) items := by
  have hlt := h.lt
  simp only [List.length_cons] at hlt
  have hfl : flatV toV (x :: items) = (toV x).cells.toList ++ flatV toV items := by simp [flatV]
  refine ⟨h.le, ⟨flatV_length hf items, ?_⟩, fun g hc hg => ?_⟩
  · rcases h.row.2 with ⟨_, h1, h2⟩ | ⟨g, off, cap, cur, h1, h2, h3, h4, h5, h6⟩
    · simp at h2
    · injection h1 with hA _ hc
      subst hA hc
      by_cases hc1 : c = 1
      · subst hc1
        have : items.length = 0 := by omega
        exact .inl ⟨some ⟨g, off, none⟩, by rw [if_pos rfl, this], this⟩
      · refine .inr ⟨g, off + size, c - 1, cur, by simp [hc1, own_add], h2, by omega, by omega, ?_, ?_⟩
        · have : c * size = (c - 1) * size + size := by rw [← Nat.succ_mul]; congr 1; omega
          omega
        · rw [List.length_cons, hfl, Nat.add_mul, Nat.one_mul] at h6
          have hd : ((toV x).cells.toList ++ flatV toV items).drop size = flatV toV items := by
            rw [show size = (toV x).cells.toList.length by rw [Array.length_toList, hf]]; exact List.drop_left
          rw [← hd, ← h6, List.drop_take, List.drop_drop]
          congr 1; omega
  · have hc1 : ¬ c = 1 := by omega
    rw [if_neg hc1] at hg
    refine h.off g (by omega) ?_
    cases A with
    | none => simp [Value.ownBlock] at hg
    | some a =>
      obtain ⟨b, o, sp⟩ := a
      simp only [Option.map_some, Value.ownBlock, Option.some.injEq] at hg ⊢
      rw [← hg]
      unfold Addr.add
      split <;> rfl
theorem GROW.use {α : Type} {L0 M L mem : Mem} {toV : α → Value} {e : TypeId} {size bytes : Nat} {A B : Option Addr} {c m : Nat} {items news : List α} {k : Option Addr → Nat → Nat → Mem → Prop} (h : Owns L0 M L toV e size A c items) (hf : ∀ x, (toV x).cells.size = size) (hone : ∀ x, ∀ u ∈ (toV x).cells.toList, u.oneCell' = true)
    (hm : m = news.length) (hr : ReadsL mem B (flatV toV news)) (hbytes : 0 < bytes) (hb : (items.length + m) * bytes ≤ 140737488355328)
    (hk : ∀ A' c' L', Owns L0 M L' toV e size A' c' (items ++ news) → (∀ i, L i ≠ none → (c ≠ 0 → (Value.slice A items.length c).ownBlock ≠ some i) → L' i = L i) → k A' (items.length + m) c' L') : GROW M L mem e size bytes (.slice A items.length c) B m k := by
  refine ⟨items.length, flatV toV items, flatV toV news, h.row, by rw [flatV_length hf, hm], hr, ?_, ?_, hb, fun A' c' L' hrow hg => ?_⟩
  · intro u hu
    simp only [flatV, List.mem_flatMap] at hu
    obtain ⟨x, _, hx⟩ := hu
    exact hone x u hx
  · have : items.length + m ≤ (items.length + m) * bytes := Nat.le_mul_of_pos_right _ hbytes
    unfold maxLen; omega
  · refine hk A' c' L' ⟨fun i o hi => ?_, ?_, fun g hc' hgo => ?_⟩ (fun i hi hne => ?_)
    · by_cases hv : (Value.slice A' (items.length + m) c').ownBlock = some i
      · rcases hg.fresh i hv with ⟨h1, h2⟩ | ⟨h1, _⟩
        · have h2 : c' = c := h2
          by_cases hc0 : c = 0
          · rw [hg.zero (by show c' = 0; omega)]; exact h.le i o hi
          · rw [(h.off i hc0 h1).2] at hi; cases hi
        · rw [h.le i o hi] at h1; cases h1
      · rw [hg.same i hv]; exact h.le i o hi
    · rw [List.length_append, ← hm, flatV_append]; exact hrow
    · rw [List.length_append, ← hm] at hgo
      rcases hg.fresh g hgo with ⟨h1, h2⟩ | ⟨h1, h2⟩
      · have h2 : c' = c := h2
        exact h.off g (by omega) h1
      · refine ⟨h2, ?_⟩
        cases hx : L0 g with
        | none => rfl
        | some o => rw [h.le g o hx] at h1; cases h1
    · by_cases hv : (Value.slice A' (items.length + m) c').ownBlock = some i
      · rcases hg.fresh i hv with ⟨h1, h2⟩ | ⟨h1, _⟩
        · have h2 : c' = c := h2
          by_cases hc0 : c = 0
          · rw [hg.zero (by show c' = 0; omega)]
          · exact absurd h1 (hne hc0)
        · exact absurd h1 hi
      · exact hg.same i hv
/-- What stands in a whole block, read as one thing. -/
theorem ReadsL.one {α : Type} {M L : Mem} {g : Nat} {toV : α → Value} {x : α} {t : TypeId} (h : M g = some (.cells (toV x).cells t (0, 0))) : ReadsL (Mem.or M L) (some ⟨g, 0, none⟩) (flatV toV [x]) :=
  .inr ⟨_, rfl, fun j u hu => by
    rw [own_add, Nat.zero_add]
    simp only [mcell, Mem.or, h, Option.isSome_none, Bool.false_eq_true, if_false]
    simpa [flatV] using hu⟩
end Go.Proofs.YthaamalgeieijabDoor
