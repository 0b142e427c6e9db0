/- Words for proofs out of the plain statements: pure contracts, loops over counters, rows of things in memory. No condition. -/
import Derived.Test.YthaamalgeieijabDoorSc
set_option linter.unusedVariables false
set_option linter.unusedSimpArgs false
namespace Go.Proofs.YthaamalgeieijabDoor
open Go

/-! ### Pure contracts -/
/-- From this memory on the call returns just this value, and leaves memory as it was known. -/
abbrev Pure (P : Program) (f : FuncId) (args : Array Value) (M L : Mem) (v : Value) : Prop := PSpec P f args M L fun v' M' L' => v' = v ∧ M' = M ∧ L' = L
theorem After.shrink {M L M' L' : Mem} {w w' : World} (h : After M L w M' L' w') : After M L w M L' w' :=
  { le := Mem.le_refl _, know := fun k o hk => h.know k o (h.le k o hk), lin := h.lin,
    disj := fun k o hk => by
      have := h.disj k o hk
      cases hm : M k with
      | none => rfl
      | some o' => rw [h.le k o' hm] at this; cases this
    newM := fun k o hk => .inl hk, newL := h.newL, os := h.os, tape := h.tape, output := h.output, size := h.size, frame := h.frame }
theorem PSpec.shrink {P : Program} {f : FuncId} {args : Array Value} {M L : Mem} {Q : Value → Mem → Prop} (h : PSpec P f args M L fun v _ L' => Q v L') : PSpec P f args M L fun v M' L' => Q v L' ∧ M' = M := by
  intro w h1 h2 h3
  refine (h w h1 h2 h3).mono ?_
  rintro e w' ⟨v, M', L', rfl, ha, hq⟩
  exact ⟨v, M, L', rfl, ha.shrink, hq, rfl⟩
theorem Pure.of {P : Program} {f : FuncId} {args : Array Value} {M L : Mem} {v : Value} (h : PSpec P f args M L fun v' _ L' => v' = v ∧ L' = L) : Pure P f args M L v := by
  intro w h1 h2 h3
  refine (PSpec.shrink (Q := fun v' L' => v' = v ∧ L' = L) h w h1 h2 h3).mono ?_
  rintro e w' ⟨v, M', L', rfl, ha, ⟨hv, hL⟩, hM⟩
  exact ⟨v, M', L', rfl, ha, hv, hM, hL⟩
theorem CALL.pure {P : Program} {f : FuncId} {args : Array Value} {M L : Mem} {k : Value → Mem → Mem → Prop} {v : Value} (h : Pure P f args M L v) (hk : k v M L) : CALL P f args M L k :=
  ⟨⟨_, h, fun v' M' L' _ hp => by obtain ⟨rfl, rfl, rfl⟩ := hp; exact hk⟩⟩
theorem CALL.post {P : Program} {f : FuncId} {args : Array Value} {M L : Mem} {k : Value → Mem → Mem → Prop} {Post : Value → Mem → Mem → Prop} (h : PSpec P f args M L Post) (hk : ∀ v M' L', M.le M' → Post v M' L' → k v M' L') : CALL P f args M L k :=
  ⟨⟨_, h, hk⟩⟩
/-- What was made and still is owned may be forgotten. -/
theorem PUB.forget {M L L' : Mem} (h : L.le L') : PUB M L' M L := ⟨Mem.le_refl _, fun _ _ h => .inl h, fun k o hk => ⟨h k o hk, rfl⟩⟩
theorem Pure.of' {P : Program} {f : FuncId} {args : Array Value} {M L : Mem} {v : Value} (h : PSpec P f args M L fun v' _ L' => v' = v ∧ L.le L') : Pure P f args M L v :=
  .of (h.mono fun v' M' L' _ hp => ⟨M', L, .forget hp.2, hp.1, rfl⟩)
def Mem.del (L : Mem) (g : Nat) : Mem := fun k => if k = g then none else L k
/-- One block that is owned is given up. -/
theorem PUB.one {M L : Mem} {g : Nat} {o : Obj} (hM : M g = none) (hL : L g = some o) : PUB M L (M.upd g o) (L.del g) where
  le := fun k o' hk => by
    by_cases hkg : k = g
    · subst hkg; rw [hM] at hk; cases hk
    · rw [Mem.upd_ne _ _ hkg]; exact hk
  newM := fun k o' hk => by
    by_cases hkg : k = g
    · subst hkg; rw [Mem.upd_self] at hk; injection hk with hk; subst hk; exact .inr hL
    · rw [Mem.upd_ne _ _ hkg] at hk; exact .inl hk
  lin := fun k o' hk => by
    unfold Mem.del at hk
    split at hk
    · cases hk
    · rename_i hkg; exact ⟨hk, Mem.upd_ne _ _ hkg⟩
theorem Mem.upd_le {L : Mem} {g : Nat} {o : Obj} (h : L g = none) : L.le (L.upd g o) := fun k o' hk => by
  by_cases hkg : k = g
  · subst hkg; rw [h] at hk; cases hk
  · rw [Mem.upd_ne _ _ hkg]; exact hk
theorem Mem.upd_none {L : Mem} {g k : Nat} {o : Obj} (h : (L.upd g o) k = none) : k ≠ g ∧ L k = none := by
  by_cases hkg : k = g
  · subst hkg; rw [Mem.upd_self] at h; cases h
  · rw [Mem.upd_ne _ _ hkg] at h; exact ⟨hkg, h⟩
/-- As 'Pure', of a value of which only so much is said. -/
abbrev PureQ (P : Program) (f : FuncId) (args : Array Value) (M L : Mem) (Q : Value → Prop) : Prop := PSpec P f args M L fun v' M' L' => Q v' ∧ M' = M ∧ L' = L
theorem PureQ.of {P : Program} {f : FuncId} {args : Array Value} {M L : Mem} {Q : Value → Prop} (h : PSpec P f args M L fun v' _ L' => Q v' ∧ L' = L) : PureQ P f args M L Q := by
  intro w h1 h2 h3
  refine (PSpec.shrink (Q := fun v' L' => Q v' ∧ L' = L) h w h1 h2 h3).mono ?_
  rintro e w' ⟨v, M', L', rfl, ha, ⟨hv, hL⟩, hM⟩
  exact ⟨v, M', L', rfl, ha, hv, hM, hL⟩
theorem CALL.q {P : Program} {f : FuncId} {args : Array Value} {M L : Mem} {k : Value → Mem → Mem → Prop} {Q : Value → Prop} (h : PureQ P f args M L Q) (hk : ∀ v, Q v → k v M L) : CALL P f args M L k :=
  ⟨⟨_, h, fun v' M' L' _ hp => by obtain ⟨hq, rfl, rfl⟩ := hp; exact hk _ hq⟩⟩
theorem EX.in {α : Type} {f : α → Prop} (x : α) (h : f x) : EX f := ⟨⟨x, h⟩⟩
/-- Steps that need no thought: 'there are such', equal values. -/
theorem EXN {α : Type} {p q : α → Prop} (x : α) (hp : p x) (hq : q x) : EX fun x => NEED (p x) (q x) := ⟨⟨x, ⟨hp, hq⟩⟩⟩
theorem IFF.t {p q : Prop} (hp : p) : IFF true p q := ⟨fun _ => hp, fun h => nomatch h⟩
theorem IFF.f {p q : Prop} (hq : q) : IFF false p q := ⟨fun h => (nomatch h), fun _ => hq⟩
theorem IFF.yes' {b : Bool} {p q : Prop} (h : b = true) (hp : p) : IFF b p q := by subst h; exact .t hp
theorem IFF.no' {b : Bool} {p q : Prop} (h : b = false) (hp : q) : IFF b p q := by subst h; exact .f hp
theorem JOIN.via {M : Mem} {one : Ass → Prop} {two : List Value → List (List Value) → Mem → Mem → Prop} (Q : Ass) (h1 : ∀ nx : Ass, (∀ vs bs M' L', Q vs bs M' L' → nx vs bs M' L') → one nx)
    (h2 : ∀ vs bs M' L', M.le M' → Q vs bs M' L' → two vs bs M' L') : JOIN M one two := ⟨⟨Q, h1 _ fun vs bs M' L' h => .refl h, h2⟩⟩
/-- A join at which memory is as it was. -/
theorem JOIN.at {α : Type} {M L : Mem} {one : Ass → Prop} {two : List Value → List (List Value) → Mem → Mem → Prop} (F : α → List Value) (Q : α → Prop) (h1 : ∀ nx : Ass, (∀ a, Q a → nx (F a) [] M L) → one nx)
    (h2 : ∀ a, Q a → two (F a) [] M L) : JOIN M one two :=
  .via (fun vs bs M' L' => ∃ a, Q a ∧ vs = F a ∧ bs = [] ∧ M' = M ∧ L' = L) (fun nx h => h1 nx fun a ha => h _ _ _ _ ⟨a, ha, rfl, rfl, rfl, rfl⟩) (by rintro vs bs M' L' - ⟨a, ha, rfl, rfl, rfl, rfl⟩; exact h2 a ha)
/-- A join whose state, with what it knows and owns of memory, is told by 'F'. -/
theorem JOIN.gen {α : Type} {M : Mem} {one : Ass → Prop} {two : List Value → List (List Value) → Mem → Mem → Prop} (F : α → List Value × List (List Value) × Mem × Mem) (Q : α → Prop) (h1 : ∀ nx : Ass, (∀ a, Q a → nx (F a).1 (F a).2.1 (F a).2.2.1 (F a).2.2.2) → one nx)
    (h2 : ∀ a, M.le (F a).2.2.1 → Q a → two (F a).1 (F a).2.1 (F a).2.2.1 (F a).2.2.2) : JOIN M one two :=
  .via (fun vs bs M' L' => ∃ a, Q a ∧ (vs, bs, M', L') = F a) (fun nx h => h1 nx fun a ha => h _ _ _ _ ⟨a, ha, rfl⟩) (by
    rintro vs bs M' L' hM ⟨a, ha, e⟩
    obtain ⟨q1, q2, q3, q4⟩ : vs = (F a).1 ∧ bs = (F a).2.1 ∧ M' = (F a).2.2.1 ∧ L' = (F a).2.2.2 := by rw [← e]; exact ⟨rfl, rfl, rfl, rfl⟩
    subst q1 q2 q3 q4
    exact h2 a hM ha)
/-- A join that carries boxes too. -/
theorem JOIN.atB {α : Type} {M L : Mem} {one : Ass → Prop} {two : List Value → List (List Value) → Mem → Mem → Prop} (F : α → List Value) (G : α → List (List Value)) (Q : α → Prop) (h1 : ∀ nx : Ass, (∀ a, Q a → nx (F a) (G a) M L) → one nx)
    (h2 : ∀ a, Q a → two (F a) (G a) M L) : JOIN M one two :=
  .via (fun vs bs M' L' => ∃ a, Q a ∧ vs = F a ∧ bs = G a ∧ M' = M ∧ L' = L) (fun nx h => h1 nx fun a ha => h _ _ _ _ ⟨a, ha, rfl, rfl, rfl, rfl⟩) (by rintro vs bs M' L' - ⟨a, ha, rfl, rfl, rfl, rfl⟩; exact h2 a ha)
theorem nat_min {p : Nat → Prop} (h : ∃ n, p n) : ∃ n, p n ∧ ∀ m, p m → n ≤ m := by
  obtain ⟨n, hn⟩ := h
  induction n using Nat.strongRecOn with
  | _ n ih =>
    by_cases hs : ∃ m, m < n ∧ p m
    · obtain ⟨m, hm, hp⟩ := hs; exact ih m hm hp
    · exact ⟨n, hn, fun m hm => by
        by_cases hlt : m < n
        · exact absurd ⟨m, hlt, hm⟩ hs
        · omega⟩
/-- A loop whose state, with what it knows and owns of memory, is told by 'F'; some of what is owned may be given up ahead of it. -/
theorem LOOP.genP {α : Type} {M L M0 L0 : Mem} {vs : List Value} {bs : List (List Value)} {body : List Value → List (List Value) → Mem → Mem → Ass → Prop} (hp : PUB M L M0 L0) (F : α → List Value × List (List Value) × Mem × Mem) (I : α → Prop) (μ : α → Nat) (a0 : α) (e0 : (vs, bs, M0, L0) = F a0) (h0 : I a0)
    (h : ∀ a again, M.le (F a).2.2.1 → I a → (∀ a', I a' → μ a' < μ a → again (F a').1 (F a').2.1 (F a').2.2.1 (F a').2.2.2) → body (F a).1 (F a).2.1 (F a).2.2.1 (F a).2.2.2 again) : LOOP vs bs M L body := by
  have key : ∀ s, (∃ n, ∃ a, I a ∧ s = F a ∧ μ a = n) → ∃ n, (∃ a, I a ∧ s = F a ∧ μ a = n) ∧ ∀ m, (∃ a, I a ∧ s = F a ∧ μ a = m) → n ≤ m := fun vs h => nat_min h
  classical
  refine ⟨⟨fun vs bs M' L' => ∃ a, I a ∧ (vs, bs, M', L') = F a, fun vs bs M L => if h : ∃ n, ∃ a, I a ∧ (vs, bs, M, L) = F a ∧ μ a = n then Classical.choose (key (vs, bs, M, L) h) else 0, ⟨M0, L0, hp, a0, h0, e0⟩, ?_⟩⟩
  rintro vs bs M' L' hM ⟨a, ha, ea⟩
  have hex : ∃ n, ∃ a', I a' ∧ (vs, bs, M', L') = F a' ∧ μ a' = n := ⟨_, a, ha, ea, rfl⟩
  obtain ⟨⟨a2, h2, e2, m2⟩, _⟩ := Classical.choose_spec (key _ hex)
  obtain ⟨q1, q2, q3, q4⟩ : vs = (F a2).1 ∧ bs = (F a2).2.1 ∧ M' = (F a2).2.2.1 ∧ L' = (F a2).2.2.2 := by rw [← e2]; exact ⟨rfl, rfl, rfl, rfl⟩
  have hb := h a2 (fun vs' bs' M'' L'' => PUBD (fun M3 L3 => (∃ a, I a ∧ (vs', bs', M3, L3) = F a) ∧ (if h : ∃ n, ∃ a, I a ∧ (vs', bs', M3, L3) = F a ∧ μ a = n then Classical.choose (key (vs', bs', M3, L3) h) else 0) < (if h : ∃ n, ∃ a, I a ∧ (vs, bs, M', L') = F a ∧ μ a = n then Classical.choose (key (vs, bs, M', L') h) else 0)) M'' L'') (by rw [← q3]; exact hM) h2 fun a' ha' hlt => .refl ⟨⟨a', ha', rfl⟩, ?_⟩
  · rw [← q1, ← q2, ← q3, ← q4] at hb
    exact hb
  · have hex' : ∃ n, ∃ b, I b ∧ ((F a').1, (F a').2.1, (F a').2.2.1, (F a').2.2.2) = F b ∧ μ b = n := ⟨_, a', ha', rfl, rfl⟩
    have hmin := (Classical.choose_spec (key _ hex')).2 _ ⟨a', ha', rfl, rfl⟩
    rw [dif_pos hex', dif_pos hex]
    omega
theorem LOOP.gen {α : Type} {M L : Mem} {vs : List Value} {bs : List (List Value)} {body : List Value → List (List Value) → Mem → Mem → Ass → Prop} (F : α → List Value × List (List Value) × Mem × Mem) (I : α → Prop) (μ : α → Nat) (a0 : α) (e0 : (vs, bs, M, L) = F a0) (h0 : I a0)
    (h : ∀ a again, M.le (F a).2.2.1 → I a → (∀ a', I a' → μ a' < μ a → again (F a').1 (F a').2.1 (F a').2.2.1 (F a').2.2.2) → body (F a).1 (F a).2.1 (F a).2.2.1 (F a).2.2.2 again) : LOOP vs bs M L body :=
  .genP (.refl M L) F I μ a0 e0 h0 h
/-- A loop that counts up to n; what it knows and owns may change. -/
theorem LOOP.toM {M L M0 L0 : Mem} {body : List Value → List (List Value) → Mem → Mem → Ass → Prop} (hp : PUB M L M0 L0) (n : Nat) (I : Nat → Mem → Mem → Prop) (h0 : I 0 M0 L0)
    (h : ∀ (j : Nat) M' L' again, M.le M' → j ≤ n → I j M' L' → (∀ M'' L'', j < n → I (j + 1) M'' L'' → again [.int .i64 ((j : Int) + 1)] [] M'' L'') → body [.int .i64 (j : Int)] [] M' L' again) : LOOP [.int .i64 0] [] M L body :=
  .genP hp (fun x : Nat × Mem × Mem => ([.int .i64 (x.1 : Int)], [], x.2.1, x.2.2)) (fun x => x.1 ≤ n ∧ I x.1 x.2.1 x.2.2) (fun x => n - x.1) (0, M0, L0) rfl ⟨Nat.zero_le _, h0⟩ fun x again hM hx hag =>
    h x.1 x.2.1 x.2.2 again hM hx.1 hx.2 fun M'' L'' hlt hI => hag (x.1 + 1, M'', L'') ⟨hlt, hI⟩ (show n - (x.1 + 1) < n - x.1 by omega)
/-- A loop in which memory stays as it was: its state is told by 'F'. -/
theorem LOOP.at {α : Type} {M L : Mem} {vs : List Value} {body : List Value → List (List Value) → Mem → Mem → Ass → Prop} (F : α → List Value) (I : α → Prop) (μ : α → Nat) (a0 : α) (e0 : vs = F a0) (h0 : I a0)
    (h : ∀ a again, I a → (∀ a', I a' → μ a' < μ a → again (F a') [] M L) → body (F a) [] M L again) : LOOP vs [] M L body :=
  .gen (fun a => (F a, [], M, L)) I μ a0 (by rw [e0]) h0 fun a again _ => h a again
theorem LOOP.atB {α : Type} {M L : Mem} {vs : List Value} {bs : List (List Value)} {body : List Value → List (List Value) → Mem → Mem → Ass → Prop} (F : α → List Value) (G : α → List (List Value)) (I : α → Prop) (μ : α → Nat) (a0 : α) (e0 : vs = F a0) (e1 : bs = G a0) (h0 : I a0)
    (h : ∀ a again, I a → (∀ a', I a' → μ a' < μ a → again (F a') (G a') M L) → body (F a) (G a) M L again) : LOOP vs bs M L body :=
  .gen (fun a => (F a, G a, M, L)) I μ a0 (by rw [e0, e1]) h0 fun a again _ => h a again
/-- A loop that counts up to n. -/
theorem LOOP.to {M L : Mem} {body : List Value → List (List Value) → Mem → Mem → Ass → Prop} (n : Nat) (I : Nat → Prop) (h0 : I 0)
    (h : ∀ (j : Nat) again, j ≤ n → I j → (j < n → I (j + 1) → again [.int .i64 ((j : Int) + 1)] [] M L) → body [.int .i64 (j : Int)] [] M L again) : LOOP [.int .i64 0] [] M L body :=
  .at (fun j : Nat => [.int .i64 (j : Int)]) (fun j => j ≤ n ∧ I j) (fun j => n - j) 0 rfl ⟨Nat.zero_le _, h0⟩ fun j again hj hag =>
    h j again hj.1 hj.2 fun hlt hI => hag (j + 1) ⟨hlt, hI⟩ (by omega)
/-- A loop that counts up to n, and carries a state ahead of the counter. -/
theorem LOOP.toS {α : Type} {M L : Mem} {vs : List Value} {body : List Value → List (List Value) → Mem → Mem → Ass → Prop} (n : Nat) (F : α → Nat → List Value) (I : α → Nat → Prop) (a0 : α) (e0 : vs = F a0 0) (h0 : I a0 0)
    (h : ∀ a (j : Nat) again, j ≤ n → I a j → (∀ a', j < n → I a' (j + 1) → again (F a' (j + 1)) [] M L) → body (F a j) [] M L again) : LOOP vs [] M L body :=
  .at (fun x : α × Nat => F x.1 x.2) (fun x => x.2 ≤ n ∧ I x.1 x.2) (fun x => n - x.2) (a0, 0) e0 ⟨Nat.zero_le _, h0⟩ fun x again hx hag =>
    h x.1 x.2 again hx.1 hx.2 fun a' hlt hI => hag (a', x.2 + 1) ⟨hlt, hI⟩ (show n - (x.2 + 1) < n - x.2 by omega)

/-! ### Maps -/
/-- A map whose keys are of a kind. -/
def MapF (d : TypeDesc) (L : Mem) (r : Nat) (f : Value → Option Value) : Prop := ∃ es, MapAt L (.map (some r)) es ∧ Keys d es ∧ ∀ k, MapKept.IsKey d k → mGet es k = f k
theorem mGet_mPut_self : ∀ (es : List (Value × Value)) (k v : Value), mGet (mPut es k v) k = some v
  | [], k, v => by simp [mPut, mGet]
  | (a, b) :: l, k, v => by
    simp only [mPut]
    split
    · simp [mGet]
    · rename_i h; simp only [mGet]; rw [if_neg h]; exact mGet_mPut_self l k v
theorem mGet_mPut_ne : ∀ (es : List (Value × Value)) {k k' : Value} (v : Value), k' ≠ k → mGet (mPut es k v) k' = mGet es k'
  | [], k, k', v, h => by simp only [mPut, mGet]; rw [if_neg (fun e => h e.symm)]
  | (a, b) :: l, k, k', v, h => by
    simp only [mPut]
    split
    · rename_i h2; subst h2; simp only [mGet]; rw [if_neg (fun e => h e.symm), if_neg (fun e => h e.symm)]
    · simp only [mGet]; split
      · rfl
      · exact mGet_mPut_ne l v h
theorem keys_mPut {d : TypeDesc} {k v : Value} (hk : MapKept.IsKey d k) : ∀ {es : List (Value × Value)}, Keys d es → Keys d (mPut es k v)
  | [], h => by intro e he; simp [mPut] at he; subst he; exact hk
  | (a, b) :: l, h => by
    simp only [mPut]
    split
    · rename_i h2; subst h2
      intro e he
      rcases List.mem_cons.1 he with rfl | he
      · exact h (a, b) (by simp)
      · exact h e (List.mem_cons_of_mem _ he)
    · intro e he
      rcases List.mem_cons.1 he with rfl | he
      · exact h (a, b) (by simp)
      · exact keys_mPut hk (fun e he => h e (List.mem_cons_of_mem _ he)) e he
theorem MapAt.congr {L L' : Mem} {r : Nat} {es : List (Value × Value)} (h : MapAt L (.map (some r)) es) (hL : L' r = L r) : MapAt L' (.map (some r)) es := by
  rcases h with ⟨h, _⟩ | ⟨q, arr, cl, h1, h2, h3⟩
  · cases h
  · injection h1 with h1; injection h1 with h1; subst h1
    exact .inr ⟨r, arr, cl, rfl, by rw [hL]; exact h2, h3⟩
theorem MapAt.up {M L : Mem} {r : Nat} {es : List (Value × Value)} (h : MapAt L (.map (some r)) es) (hM : M r = none) : MapAt (Mem.or M L) (.map (some r)) es :=
  h.congr (by simp [Mem.or, hM])
theorem MapAt.new {L : Mem} {g : Nat} : MapAt (L.upd g (.map #[] 0)) (.map (some g)) [] := .inr ⟨g, #[], 0, rfl, Mem.upd_self _ _ _, rfl⟩
/-! ### Rows of things -/
theorem ReadsAt.up {M L : Mem} {A : Option Addr} {k : Nat} {v : Value} (h : ReadsAt M A k v) : ReadsAt (Mem.or M L) A k v := h.mono (Mem.le_or M L)
theorem ReadsAt.ne {M : Mem} {A : Option Addr} {k : Nat} {v : Value} (h : ReadsAt M A k v) : A ≠ none := by obtain ⟨a, rfl, _⟩ := h; simp
theorem ReadsAt.sub {M : Mem} {A : Option Addr} {k k' : Nat} {v u : Value} (h : ReadsAt M A k v) (off : Nat) (hk : k' = k + off) (hu : (v.cells.toList.drop off).take u.cells.toList.length = u.cells.toList) : ReadsAt M A k' u := by
  subst hk
  obtain ⟨a, rfl, hc⟩ := h
  refine ⟨a, rfl, fun j x hx => ?_⟩
  have hx' : u.cells.toList[j]? = some x := by simpa using hx
  rw [← hu] at hx'
  rw [List.getElem?_take] at hx'
  split at hx'
  · rw [List.getElem?_drop] at hx'
    have := hc (off + j) x (by simpa using hx')
    rwa [show k + off + j = k + (off + j) by omega]
  · cases hx'
/-- A row of things in memory. -/
structure Row {α : Type} (M : Mem) (toV : α → Value) (size : Nat) (A : Option Addr) (c : Nat) (xs : List α) : Prop where
  le : xs.length ≤ c
  max : c ≤ maxLen
  cell : ∀ i (h : i < xs.length), ReadsAt M A (i * size) (toV xs[i])
theorem Row.mono {α : Type} {M M' : Mem} {toV : α → Value} {size : Nat} {A : Option Addr} {c : Nat} {xs : List α} (hM : M.le M') (h : Row M toV size A c xs) : Row M' toV size A c xs :=
  ⟨h.le, h.max, fun i hi => (h.cell i hi).mono hM⟩
theorem Row.len {α : Type} {M : Mem} {toV : α → Value} {size : Nat} {A : Option Addr} {c : Nat} {xs : List α} (h : Row M toV size A c xs) : (xs.length : Int) ≤ 9223372036854775807 := by
  have := h.le; have := h.max; unfold maxLen at this; omega
theorem Row.ne {α : Type} {M : Mem} {toV : α → Value} {size : Nat} {A : Option Addr} {c : Nat} {xs : List α} (h : Row M toV size A c xs) {i : Nat} (hi : i < xs.length) : A ≠ none := (h.cell i hi).ne
theorem Row.take {α : Type} {M : Mem} {toV : α → Value} {size : Nat} {A : Option Addr} {c : Nat} {xs : List α} (h : Row M toV size A c xs) (n : Nat) : Row M toV size A c (xs.take n) :=
  ⟨by have := h.le; simp; omega, h.max, fun i hi => by
    have hi' : i < xs.length := by simp at hi; omega
    have := h.cell i hi'
    simpa using this⟩
end Go.Proofs.YthaamalgeieijabDoor
