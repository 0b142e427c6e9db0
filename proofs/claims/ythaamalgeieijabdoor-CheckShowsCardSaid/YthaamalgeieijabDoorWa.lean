/- Contracts of what writes tokens, on the program's side. No condition. -/
import Derived.Test.YthaamalgeieijabDoorGa
import Derived.Test.YthaamalgeieijabDoorVcW
set_option linter.unusedVariables false
set_option linter.unusedSimpArgs false
namespace Go.Proofs.YthaamalgeieijabDoor
open Go

/-- A writer of tokens in memory that is lent: its box, its row. -/
structure WrAt (L0 M L : Mem) (g : Nat) (A : Option Addr) (c : Nat) (items : List Tok) : Prop where
  box : L g = some (.cells #[.slice A items.length c] 35 (0, 0))
  row : Owns L0 M L Tok.toV 56 3 A c items
  ne : ∀ k, c ≠ 0 → (Value.slice A items.length c).ownBlock = some k → k ≠ g
  hM : M g = none
  hL : L0 g = none
def Wr (L0 M L : Mem) (g : Nat) (items : List Tok) : Prop := ∃ A c, WrAt L0 M L g A c items
theorem WrAt.newM {L0 M L : Mem} {g : Nat} {A : Option Addr} {c : Nat} {items : List Tok} (h : WrAt L0 M L g A c items) {k : Nat} {o : Obj} (hL : L k = none) : WrAt L0 (M.upd k o) L g A c items :=
  ⟨h.box, h.row.newM hL, h.ne, by rw [Mem.upd_ne _ _ (fun e => by rw [e] at h; have := h.box; rw [hL] at this; cases this)]; exact h.hM, h.hL⟩
theorem Wr.newM {L0 M L : Mem} {g : Nat} {items : List Tok} (h : Wr L0 M L g items) {k : Nat} {o : Obj} (hL : L k = none) : Wr L0 (M.upd k o) L g items := by
  obtain ⟨A, c, h⟩ := h; exact ⟨A, c, h.newM hL⟩
theorem Wr.down {L0 M M' L : Mem} {g : Nat} {items : List Tok} (hM : M.le M') (h : Wr L0 M' L g items) : Wr L0 M L g items := by
  have low : ∀ k, M' k = none → M k = none := fun k hk => by
    cases hx : M k with
    | none => rfl
    | some o => rw [hM k o hx] at hk; cases hk
  obtain ⟨A, c, h⟩ := h
  exact ⟨A, c, h.box, ⟨h.row.le, h.row.row, fun k hc hk => ⟨low k (h.row.off k hc hk).1, (h.row.off k hc hk).2⟩⟩, h.ne, low g h.hM, h.hL⟩
theorem WrAt.read {L0 M L : Mem} {g : Nat} {A : Option Addr} {c : Nat} {items : List Tok} (h : WrAt L0 M L g A c items) : ReadsAt (Mem.or M L) (some ⟨g, 0, none⟩) 0 (.slice A items.length c) :=
  ⟨_, rfl, fun j u hu => by
    rw [own_add]
    simp only [mcell, Mem.or, h.hM, h.box]
    simpa [Value.cells] using hu⟩
theorem WrAt.grow {L0 M L mem : Mem} {g : Nat} {A B : Option Addr} {c : Nat} {items : List Tok} {k : Mem → Prop} (h : WrAt L0 M L g A c items) (x : Tok) (hr : ReadsL mem B (flatV Tok.toV [x])) (hB : items.length + 1 ≤ 1099511627776) (hk : ∀ L', Wr L0 M L' g (items ++ [x]) → k L') :
    GROW M L mem 56 3 32 (.slice A items.length c) B 1 fun A' n' c' L1 => NEED (some (⟨g, 0, none⟩ : Addr) ≠ none) (WRITE L1 (some ⟨g, 0, none⟩) 0 [.slice A' n' c'] k) := by
  refine GROW.use (toV := Tok.toV) (news := [x]) h.row Tok.size3 Tok.one rfl hr (by decide) (by omega) fun A' c' L' hO' hs => ?_
  have hg : L' g = L g := hs g (by rw [h.box]; simp) (fun hc hk => h.ne g hc hk rfl)
  refine NEED.mk (by simp) ⟨⟨⟨g, 0, none⟩, #[.slice A items.length c], 35, rfl, rfl, by rw [hg]; exact h.box, by simp, ?_⟩⟩
  have hL0 : ∀ o, L0.le (L'.upd g o) := fun o k o' hk => by
    rw [Mem.upd_ne _ _ (fun e => by rw [e, h.hL] at hk; cases hk)]; exact hO'.le k o' hk
  have hne' : ∀ k, c' ≠ 0 → (Value.slice A' (items ++ [x]).length c').ownBlock = some k → k ≠ g := fun k' hc hq e => by
    subst e
    have := hO'.row.2
    rcases this with ⟨_, h1, _⟩ | ⟨g2, off, cap, cur, h1, h2, _⟩
    · injection h1 with _ _ h1; exact hc h1
    · rw [h1] at hq
      have : g2 = k' := by simpa [Value.ownBlock] using hq
      subst this
      rw [hg, h.box] at h2
      injection h2 with h2
      injection h2 with _ h2
      exact absurd h2 (by decide)
  refine hk _ ⟨A', c', ?_, hO'.other (hL0 _) (fun k hc hk => Mem.upd_ne _ _ (hne' k hc hk)), hne', h.hM, h.hL⟩
  rw [Mem.upd_self]
  simp
abbrev Puts (P : Program) (f : FuncId) (args : Array Value) (L0 M L : Mem) (g : Nat) (items new : List Tok) : Prop := PSpec P f args M L fun v M' L' => (v = .tuple #[] ∧ Wr L0 M L' g (items ++ new)) ∧ M' = M
theorem Puts.of {P : Program} {f : FuncId} {args : Array Value} {L0 M L : Mem} {g : Nat} {items new : List Tok} (h : PSpec P f args M L fun v M' L' => v = .tuple #[] ∧ Wr L0 M' L' g (items ++ new)) : Puts P f args L0 M L g items new :=
  PSpec.shrink (Q := fun v L' => v = .tuple #[] ∧ Wr L0 M L' g (items ++ new)) (h.mono fun v M' L' hM hp => .refl ⟨hp.1, hp.2.down hM⟩)
theorem CALL.puts {P : Program} {f : FuncId} {args : Array Value} {L0 M L : Mem} {g : Nat} {items new : List Tok} {k : Value → Mem → Mem → Prop} (h : Puts P f args L0 M L g items new) (hk : ∀ L', Wr L0 M L' g (items ++ new) → k (.tuple #[]) M L') : CALL P f args M L k :=
  CALL.post h fun v M' L' _ hp => by
    obtain ⟨⟨rfl, hw⟩, rfl⟩ := hp
    exact hk L' hw
theorem wPut_ok {g n c : Nat} {A : Option Addr} {ss : List ByteArray} {items : List Tok} {L0 M L : Mem} (hW : Wr L0 M L g items) (hn : n = ss.length) (hs : Row M Value.string 1 A c ss) (hne : ∀ s ∈ ss, 0 < s.size) (hB : items.length + ss.length ≤ 1099511627776) :
    Puts Tryd.prog 8 #[.pointer (some ⟨g, 0, none⟩), .slice A n c] L0 M L g items (ss.map word) := by
  subst hn
  refine Puts.of (wPut_spec ?_)
  unfold vc_wPut
  have hlen := hs.len
  refine LOOP.gen (fun x : Nat × Mem × Mem => ([.int .i64 (x.1 : Int)], [], x.2.1, x.2.2)) (fun x => x.1 ≤ ss.length ∧ Wr L0 x.2.1 x.2.2 g (items ++ (ss.take x.1).map word)) (fun x => ss.length - x.1) (0, M, L) rfl ⟨Nat.zero_le _, by simpa using hW⟩ ?_
  rintro ⟨j, M1, L1⟩ again hM1 ⟨hj, A1, c1, hW⟩ hag
  dsimp only at hM1 hj hW hag ⊢
  have hs := hs.mono hM1
  (repeat apply EX.in)
  refine NEED.mk ⟨rfl, rfl⟩ ?_
  refine IFF.mk (fun hb => ?_) (fun hb => ?_) <;> (try simp only [decide_eq_true_eq, decide_eq_false_iff_not, Bool.and_eq_true, Bool.or_eq_true, Bool.not_eq_true', Bool.not_eq_false', Bool.and_eq_false_iff, Bool.or_eq_false_iff, Bool.not_true, Bool.not_false, Int.not_lt, Int.not_le, Decidable.not_not, ne_eq] at hb)
  · have hlt : j < ss.length := by simpa using hb
    have hr := (hs).cell j hlt
    have hd := drop_step hlt
    refine NEED.mk ⟨hr.ne, by omega, by omega⟩ ?_
    (repeat apply EX.in)
    refine NEED.mk (by first | exact hr.up | exact hr) ?_
    have hpos := hne _ (List.getElem_mem hlt)
    refine NEED.mk ⟨by omega, by omega⟩ (NEED.mk (fun _ => ⟨by omega, by omega⟩) ?_)
    have hl : (items ++ (ss.take j).map word).length = items.length + j := by simp; omega
    have hts : items ++ (ss.take (j + 1)).map word = items ++ (ss.take j).map word ++ [word ss[j]] := by rw [take_step hlt, List.map_append, ← List.append_assoc]; rfl
    refine IFF.mk (fun hb => ?_) (fun hb => ?_) <;> (try simp only [decide_eq_true_eq, decide_eq_false_iff_not, Bool.and_eq_true, Bool.or_eq_true, Bool.not_eq_true', Bool.not_eq_false', Bool.and_eq_false_iff, Bool.or_eq_false_iff, Bool.not_true, Bool.not_false, Int.not_lt, Int.not_le, Decidable.not_not, ne_eq] at hb)
    · have hw : word ss[j] = ⟨1, ss[j], 0⟩ := by rw [word, if_pos (by omega)]
      refine NEED.mk (by simp) (EX.in _ (EX.in _ (EX.in _ (NEED.mk hW.read ⟨fun g1 hMg hLg => ?_⟩))))
      refine (hW.newM hLg).grow ⟨1, ss[j], 0⟩ (ReadsL.one (x := (⟨1, ss[j], 0⟩ : Tok)) (Mem.upd_self _ _ _)) (by omega) fun L' hW' => ?_
      refine NEED.mk (by unfold inI64; omega) ?_
      refine NEED.mk ⟨rfl, rfl⟩ ?_
      exact hag (j + 1, _, L') ⟨hlt, by dsimp only; rw [hts, hw]; exact hW'⟩ (by dsimp only; omega)
    · have hw : word ss[j] = ⟨4, ss[j], 0⟩ := by rw [word, if_neg (by omega)]
      refine NEED.mk (by simp) (EX.in _ (EX.in _ (EX.in _ (NEED.mk hW.read ⟨fun g1 hMg hLg => ?_⟩))))
      refine (hW.newM hLg).grow ⟨4, ss[j], 0⟩ (ReadsL.one (x := (⟨4, ss[j], 0⟩ : Tok)) (Mem.upd_self _ _ _)) (by omega) fun L' hW' => ?_
      refine NEED.mk (by unfold inI64; omega) ?_
      refine NEED.mk ⟨rfl, rfl⟩ ?_
      exact hag (j + 1, _, L') ⟨hlt, by dsimp only; rw [hts, hw]; exact hW'⟩ (by dsimp only; omega)
  · rw [List.take_of_length_le (by omega)] at hW
    exact ⟨rfl, A1, c1, hW⟩
theorem PUTW {L0 M L : Mem} {g n m : Nat} {items : List Tok} {e : TypeId} {k : Value → Mem → Mem → Prop} (hW : Wr L0 M L g items) (ss : List ByteArray) (hne : ∀ s ∈ ss, 0 < s.size) (hB : items.length + ss.length ≤ 1099511627776)
    (hk : ∀ M' L', M.le M' → Wr L0 M' L' g (items ++ ss.map word) → k (.tuple #[]) M' L') (hn : n = ss.length := by rfl) (hm : m = ss.length := by rfl) (hs : ss.length ≤ 100 := by simp) :
    NEWM M L (.cells (ss.map Value.string).toArray e (0, 0)) fun q M1 => CALL Tryd.prog 8 #[.pointer (some ⟨g, 0, none⟩), .slice (some ⟨q, 0, none⟩) n m] M1 L k := by
  subst hn hm
  refine ⟨fun q hM hL => ?_⟩
  have hle := Mem.upd_le (o := .cells (ss.map Value.string).toArray e (0, 0)) hM
  have hrow := Row.strs (n := q) (xs := ss) (t := e) (f := (0, 0)) (Mem.upd_self M q (.cells (ss.map Value.string).toArray e (0, 0))) (by unfold maxLen; omega)
  exact CALL.puts (wPut_ok (hW.newM hL) rfl hrow hne hB) fun L' hW' => hk _ L' hle hW'
theorem wNumber_ok {g : Nat} {n : Int} {items : List Tok} {L0 M L : Mem} (hW : Wr L0 M L g items) (h1 : -4611686018427387904 ≤ n) (hB : items.length + (numT n).length ≤ 1099511627776) : Puts Tryd.prog 19 #[.pointer (some ⟨g, 0, none⟩), .int .i64 n] L0 M L g items (numT n) := by
  refine Puts.of (wNumber_spec ?_)
  unfold vc_wNumber
  refine IFF.mk (fun hb => ?_) (fun hb => ?_) <;> (try simp only [decide_eq_true_eq, decide_eq_false_iff_not, Bool.and_eq_true, Bool.or_eq_true, Bool.not_eq_true', Bool.not_eq_false', Bool.and_eq_false_iff, Bool.or_eq_false_iff, Bool.not_true, Bool.not_false, Int.not_lt, Int.not_le, Decidable.not_not, ne_eq] at hb)
  · have e : numT n = [word (ByteArray.mk #[45])] ++ [numTok (-n)] := by rw [numT, if_pos hb]; rfl
    rw [e] at hB ⊢
    simp only [List.length_append, List.length_cons, List.length_nil] at hB
    rw [← List.append_assoc]
    refine PUTW hW ([(ByteArray.mk #[45])]) (by intro s hs; simp at hs; (try rcases hs with rfl | rfl | rfl) <;> (try subst hs) <;> first | omega | decide) (by simp only [List.length_append, List.length_cons, List.length_nil, List.length_map, List.length_nil]; omega) fun M1 L1 hM1 hW => ?_
    refine NEED.mk rfl ?_
    refine NEED.mk (by unfold inI64; omega) ?_
    refine NEED.mk (by simp) ?_
    obtain ⟨A, c, hW⟩ := hW
    refine EX.in _ (EX.in _ (EX.in _ (NEED.mk hW.read ⟨fun g1 hMg hLg => ?_⟩)))
    exact (hW.newM hLg).grow (numTok (-n)) (ReadsL.one (x := numTok (-n)) (Mem.upd_self _ _ _)) (by simp; omega) fun L' hW' => ⟨rfl, hW'⟩
  · have e : numT n = [numTok n] := numT_pos' (by omega)
    rw [e] at hB ⊢
    simp only [List.length_cons, List.length_nil] at hB
    refine NEED.mk (by simp) ?_
    obtain ⟨A, c, hW⟩ := hW
    refine EX.in _ (EX.in _ (EX.in _ (NEED.mk hW.read ⟨fun g1 hMg hLg => ?_⟩)))
    exact (hW.newM hLg).grow (numTok n) (ReadsL.one (x := numTok n) (Mem.upd_self _ _ _)) (by omega) fun L' hW' => ⟨rfl, hW'⟩
theorem wSide_ok {g : Nat} {o : Opd} {items : List Tok} {L0 M L : Mem} (hW : Wr L0 M L g items) (hf : o.Fine) (hB : items.length + (sideT o).length ≤ 1099511627776) : Puts Tryd.prog 21 #[.pointer (some ⟨g, 0, none⟩), o.toV] L0 M L g items (sideT o) := by
  refine Puts.of (wSide_spec ?_)
  unfold vc_wSide
  refine IFF.mk (fun hb => ?_) (fun hb => ?_) <;> (try simp only [decide_eq_true_eq, decide_eq_false_iff_not, Bool.and_eq_true, Bool.or_eq_true, Bool.not_eq_true', Bool.not_eq_false', Bool.and_eq_false_iff, Bool.or_eq_false_iff, Bool.not_true, Bool.not_false, Int.not_lt, Int.not_le, Decidable.not_not, ne_eq] at hb)
  · have hn : nameF o.var = 0 ∧ nameF o.field = 0 := by rcases hf with ⟨h, _⟩ | ⟨h, h2⟩ | ⟨h, h2⟩ <;> first | omega | exact h2
    have h1 := (name_chars hn.1).2.2.1
    have h2 := (name_chars hn.2).2.2.1
    have e : sideT o = [word o.var, word (ByteArray.mk #[46]), word o.field] := by rw [sideT, if_pos hb]
    rw [e] at hB ⊢
    simp only [List.length_cons, List.length_nil] at hB
    refine PUTW hW ([o.var, (ByteArray.mk #[46]), o.field]) (by intro s hs; simp at hs; (try rcases hs with rfl | rfl | rfl) <;> (try subst hs) <;> first | omega | decide) (by simp only [List.length_append, List.length_cons, List.length_nil, List.length_map, List.length_nil]; omega) fun M1 L1 hM1 hW => ?_
    refine NEED.mk rfl ?_
    exact ⟨rfl, hW⟩
  refine IFF.mk (fun hb => ?_) (fun hb => ?_) <;> (try simp only [decide_eq_true_eq, decide_eq_false_iff_not, Bool.and_eq_true, Bool.or_eq_true, Bool.not_eq_true', Bool.not_eq_false', Bool.and_eq_false_iff, Bool.or_eq_false_iff, Bool.not_true, Bool.not_false, Int.not_lt, Int.not_le, Decidable.not_not, ne_eq] at hb)
  · have hn : nameF o.field = 0 := by rcases hf with ⟨h, _⟩ | ⟨h, h2⟩ | ⟨h, _⟩ <;> first | omega | exact h2
    have h1 := (name_chars hn).2.2.1
    have e : sideT o = [word o.field] := by rw [sideT, if_neg (by omega), if_pos hb]
    rw [e] at hB ⊢
    simp only [List.length_cons, List.length_nil] at hB
    refine PUTW hW ([o.field]) (by intro s hs; simp at hs; (try rcases hs with rfl | rfl | rfl) <;> (try subst hs) <;> first | omega | decide) (by simp only [List.length_append, List.length_cons, List.length_nil, List.length_map, List.length_nil]; omega) fun M1 L1 hM1 hW => ?_
    refine NEED.mk rfl ?_
    exact ⟨rfl, hW⟩
  have hk1 : o.kind = 1 ∧ valF o.v = 0 := by rcases hf with h | ⟨h, _⟩ | ⟨h, _⟩ <;> first | omega | exact h
  refine IFF.mk (fun hb => ?_) (fun hb => ?_) <;> (try simp only [decide_eq_true_eq, decide_eq_false_iff_not, Bool.and_eq_true, Bool.or_eq_true, Bool.not_eq_true', Bool.not_eq_false', Bool.and_eq_false_iff, Bool.or_eq_false_iff, Bool.not_true, Bool.not_false, Int.not_lt, Int.not_le, Decidable.not_not, ne_eq] at hb)
  · have e : sideT o = numT o.v.int := by rw [sideT, if_neg (by omega), if_neg (by omega), if_pos hb]
    rw [e] at hB ⊢
    have hr : -1125899906842624 ≤ o.v.int := by have := hk1.2; unfold valF at this; grind
    refine CALL.puts (wNumber_ok hW (n := o.v.int) (by omega) hB) fun L1 hW => ?_
    refine NEED.mk rfl ?_
    exact ⟨rfl, hW⟩
  · have e : sideT o = [⟨3, o.v.text, 0⟩] := by rw [sideT, if_neg (by omega), if_neg (by omega), if_neg hb]
    rw [e] at hB ⊢
    simp only [List.length_cons, List.length_nil] at hB
    obtain ⟨A, c, hW⟩ := hW
    refine NEED.mk (by simp) ⟨?_, ⟨?_, ?_⟩⟩
    · refine EX.in _ (EX.in _ (EX.in _ (NEED.mk hW.read ⟨fun g1 hMg hLg => ?_⟩)))
      exact (hW.newM hLg).grow ⟨3, o.v.text, 0⟩ (ReadsL.one (x := (⟨3, o.v.text, 0⟩ : Tok)) (Mem.upd_self _ _ _)) (by omega) fun L' hW' => ⟨rfl, hW'⟩
    · refine EX.in _ (EX.in _ (EX.in _ (NEED.mk hW.read ⟨fun g1 hMg hLg => ?_⟩)))
      exact (hW.newM hLg).grow ⟨3, o.v.text, 0⟩ (ReadsL.one (x := (⟨3, o.v.text, 0⟩ : Tok)) (Mem.upd_self _ _ _)) (by omega) fun L' hW' => ⟨rfl, hW'⟩
    · refine ⟨fun g1 hMg hLg => ?_⟩
      refine EX.in _ (EX.in _ (EX.in _ (NEED.mk (hW.newM hLg).read ?_)))
      exact (hW.newM hLg).grow ⟨3, o.v.text, 0⟩ (ReadsL.one (x := (⟨3, o.v.text, 0⟩ : Tok)) (Mem.upd_self _ _ _)) (by omega) fun L' hW' => ⟨rfl, hW'⟩
end Go.Proofs.YthaamalgeieijabDoor
