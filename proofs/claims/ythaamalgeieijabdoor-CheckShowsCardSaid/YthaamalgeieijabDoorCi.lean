/- Contracts: whether an event comes of events of its own type, by the program's search. No condition. -/
import Derived.Test.YthaamalgeieijabDoorCh
set_option linter.unusedVariables false
set_option linter.unusedSimpArgs false
namespace Go.Proofs.YthaamalgeieijabDoor
open Go

theorem MapF.block {L : Mem} {d : TypeDesc} {r : Nat} {f : Value → Option Value} (h : MapF d L r f) : ∃ arr cl, L r = some (Obj.map arr cl) := by
  obtain ⟨es, h1, _⟩ := h
  rcases h1 with ⟨h1, _⟩ | ⟨q, arr, cl, h1, h2, _⟩
  · cases h1
  · injection h1 with h1; injection h1 with h1; subst h1; exact ⟨arr, cl, h2⟩
theorem Owns.notMap {α : Type} {L0 M L : Mem} {toV : α → Value} {e : TypeId} {size : Nat} {A : Option Addr} {c : Nat} {items : List α} (h : Owns L0 M L toV e size A c items) {d : TypeDesc} {r : Nat} {f : Value → Option Value} (hm : MapF d L r f) : c ≠ 0 → (Value.slice A items.length c).ownBlock ≠ some r := by
  intro hc hr
  obtain ⟨arr, cl, hb⟩ := hm.block
  rcases h.row.2 with ⟨_, h1, h2⟩ | ⟨g, off, cap, cur, h1, h2, h3⟩
  · injection h1 with _ _ h1; exact hc h1
  · rw [h1] at hr
    have : g = r := by simpa [Value.ownBlock] using hr
    rw [this, hb] at h2; cases h2
theorem MapF.congr {L L' : Mem} {d : TypeDesc} {r : Nat} {f : Value → Option Value} (h : MapF d L r f) (hL : L' r = L r) : MapF d L' r f := by
  obtain ⟨es, h1, h2, h3⟩ := h
  exact ⟨es, h1.congr hL, h2, h3⟩
theorem cEndless_1_ok {b : Bok} {c0 : Option Addr} {s : ByteArray} {M L : Mem} (hb : b.Ok M) (h5 : b.rules.length ≤ 5) (hc : ReadsAt M c0 0 b.toV) :
    PSpec Tryd.prog 39 #[.string s, .pointer c0] M L fun v M' L' => ∃ r seen, v = .map (some r) ∧ MapF .string L' r (takenV seen) ∧ (∀ u, u ∈ seen ↔ Reach b.rules s u) ∧ M' r = none ∧ L.le L' := by
  refine cEndless_1_spec ?_
  unfold vc_cEndless_1
  refine ⟨fun g hMg hLg => ⟨fun g0 hM0 hL0 => ?_⟩⟩
  obtain ⟨n0, hL0'⟩ := Mem.upd_none hL0
  have hstr1 : ∀ s : ByteArray, (Value.string s).cells.size = 1 := fun s => rfl
  have hstr2 : ∀ s : ByteArray, ∀ u ∈ (Value.string s).cells.toList, u.oneCell' = true := fun s u hu => by simp [Value.cells] at hu; subst hu; rfl
  have hle0 := Mem.upd_le (o := .cells #[.string s] 9) hM0
  refine LOOP.gen (fun x : List ByteArray × Option Addr × Nat × List ByteArray × Mem × Mem => ([.slice x.2.1 x.1.length x.2.2.1], [], x.2.2.2.2.1, x.2.2.2.2.2))
    (fun x => MapF .string x.2.2.2.2.2 g (takenV x.2.2.2.1) ∧ x.2.2.2.2.1 g = none ∧ L.le x.2.2.2.2.2 ∧ Sought b.rules s x.2.2.2.1 x.1 ∧ x.1.length + unseen b.rules x.2.2.2.1 ≤ b.rules.length + 1 ∧
      (Owns L x.2.2.2.2.1 x.2.2.2.2.2 Value.string 9 1 x.2.1 x.2.2.1 x.1 ∨ (Row x.2.2.2.2.1 Value.string 1 x.2.1 x.2.2.1 x.1 ∧ x.2.2.1 = 1 ∧ x.1.length = 1)))
    (fun x => x.1.length + unseen b.rules x.2.2.2.1) ([s], some ⟨g0, 0, none⟩, 1, [], M.upd g0 (.cells #[.string s] 9), L.upd g (.map #[] 0)) rfl ?_ ?_
  · refine ⟨⟨[], .new, (by intro e he; cases he), fun k hk => by cases k <;> rfl⟩, ?_, Mem.upd_le hLg, .start, ?_, .inr ⟨?_, rfl, rfl⟩⟩
    · exact (Mem.upd_ne _ _ (Ne.symm n0)).trans hMg
    · have : unseen b.rules [] ≤ b.rules.length := List.length_filter_le _ _
      show 1 + unseen b.rules [] ≤ _
      omega
    · exact Row.strs (n := g0) (xs := [s]) (t := 9) (f := (0, 0)) (Mem.upd_self _ _ _) (by show 1 ≤ maxLen; decide)
  rintro ⟨items, A, c, seen, M1, L1⟩ again hM1 ⟨hmap, hMg1, hle1, hS, hlen, hrow⟩ hag
  dsimp only at hM1 hmap hMg1 hle1 hS hlen hrow hag ⊢
  have hb1 := (hb.mono hle0).mono hM1
  have hc1 := (hc.mono hle0).mono hM1
  (repeat apply EX.in)
  refine NEED.mk ⟨rfl, rfl⟩ ?_
  cases items with
  | nil =>
    refine IFF.no' (by simp) ⟨g, seen, rfl, hmap, hS.all, hMg1, hle1⟩
  | cons n rest =>
    refine IFF.yes' (by simp only [List.length_cons, decide_eq_true_eq]; omega) ?_
    have hread : Row (Mem.or M1 L1) Value.string 1 A c (n :: rest) := by
      rcases hrow with h | ⟨h, _⟩
      · exact h.read hstr1
      · exact h.mono (Mem.le_or M1 L1)
    have hr := hread.cell 0 (by simp)
    have hlec := hread.le
    refine NEED.mk ⟨hr.ne, by omega, by simp⟩ ?_
    (repeat apply EX.in)
    refine NEED.mk (by simpa using hr) ?_
    refine NEED.mk ⟨by omega, by simp only [List.length_cons]; omega, hlec⟩ ?_
    refine NEED.mk hc1.ne ?_
    (repeat apply EX.in)
    refine NEED.mk (ReadsAt.sub hc1 1 (by simp) rfl).up ?_
    have htail : Owns L M1 L1 Value.string 9 1 (if c = 1 then A else A.map fun a => a.add 1) (c - 1) rest := by
      rcases hrow with h | ⟨h, hc, hl⟩
      · exact h.tail hstr1
      · have : rest = [] := by simpa using hl
        subst this hc
        exact ⟨hle1, ⟨by simp [flatV], .inl ⟨_, rfl, rfl⟩⟩, fun g h0 => absurd rfl h0⟩
    have hK : rest.length + unseen b.rules seen ≤ b.rules.length := by simp at hlen; omega
    refine LOOP.gen (fun x : List ByteArray × Option Addr × Nat × Nat × List ByteArray × Mem × Mem => ([.slice x.2.1 x.1.length x.2.2.1, .int .i64 (x.2.2.2.1 : Int)], [], x.2.2.2.2.2.1, x.2.2.2.2.2.2))
      (fun x => x.2.2.2.1 ≤ b.rules.length ∧ Owns L x.2.2.2.2.2.1 x.2.2.2.2.2.2 Value.string 9 1 x.2.1 x.2.2.1 x.1 ∧ MapF .string x.2.2.2.2.2.2 g (takenV x.2.2.2.2.1) ∧ x.2.2.2.2.2.1 g = none ∧ Seeking b.rules s n x.2.2.2.1 x.2.2.2.2.1 x.1 ∧
        x.1.length + unseen b.rules x.2.2.2.2.1 ≤ rest.length + unseen b.rules seen)
      (fun x => b.rules.length - x.2.2.2.1) (rest, _, _, 0, seen, M1, L1) rfl ⟨Nat.zero_le _, htail, hmap, hMg1, hS.pop, Nat.le_refl _⟩ ?_
    rintro ⟨items2, A2, c2, i, seen2, M2, L2⟩ again2 hM2 ⟨hi, hO, hmap2, hMg2, hSk, hlen2⟩ hag2
    dsimp only at hM2 hi hO hmap2 hMg2 hSk hlen2 hag2 ⊢
    have hb2 := hb1.mono hM2
    have hlr := hb2.rules.len
    have hgL : L2 g ≠ none := hmap2.there
    (repeat apply EX.in)
    refine NEED.mk ⟨rfl, rfl⟩ ?_
    refine IFF.mk (fun hb => ?_) (fun hb => ?_) <;> (try simp only [decide_eq_true_eq, decide_eq_false_iff_not, Bool.and_eq_true, Bool.or_eq_true, Bool.not_eq_true', Bool.not_eq_false', Bool.and_eq_false_iff, Bool.or_eq_false_iff, Bool.not_true, Bool.not_false, Int.not_lt, Int.not_le, Decidable.not_not, ne_eq] at hb)
    · have hlt : i < b.rules.length := by omega
      have hr := hb2.rules.cell i hlt
      have hxo := hb2.rule _ (List.getElem_mem hlt)
      refine NEED.mk ⟨hr.ne, by omega, by omega⟩ ?_
      (repeat apply EX.in)
      refine NEED.mk (by first | exact hr.up | exact hr) ?_
      have skip : (fires b.rules[i] n → b.rules[i].etype ∈ seen2) → again2 [.slice A2 items2.length c2, .int .i64 ((i : Int) + 1)] [] M2 L2 := fun h =>
        hag2 (items2, A2, c2, i + 1, seen2, M2, L2) ⟨hlt, hO, hmap2, hMg2, hSk.next hlt h, hlen2⟩ (by dsimp only; omega)
      refine IFF.mk (fun hb => ?_) (fun hb => ?_) <;> (try simp only [decide_eq_true_eq, decide_eq_false_iff_not, Bool.and_eq_true, Bool.or_eq_true, Bool.not_eq_true', Bool.not_eq_false', Bool.and_eq_false_iff, Bool.or_eq_false_iff, Bool.not_true, Bool.not_false, Int.not_lt, Int.not_le, Decidable.not_not, ne_eq] at hb)
      · have hne := hb
        obtain ⟨es, q1, q2, q3⟩ := hmap2
        have hget := q3 (.string b.rules[i].etype) trivial
        simp only [takenV] at hget
        refine EX.in es ?_
        by_cases hin : seen2.any (fun u => decide (u = b.rules[i].etype)) = true
        · rw [if_pos hin] at hget
          refine EX.in true (EX.in true (NEED.mk ⟨q1.up hMg2, q2, by rw [hget]; rfl, fun h => by cases h⟩ (IFF.f (IFF.f ?_))))
          refine NEED.mk (by unfold inI64; omega) ?_
          refine NEED.mk ⟨rfl, rfl⟩ ?_
          refine skip fun _ => ?_
          obtain ⟨u, hu, hu2⟩ := List.any_eq_true.1 hin
          rw [← of_decide_eq_true hu2]; exact hu
        · rw [if_neg hin] at hget
          refine EX.in false (EX.in false (NEED.mk ⟨q1.up hMg2, q2, by rw [hget]; rfl, fun _ => rfl⟩ (IFF.t ?_)))
          refine CALL.pure (cUses_ok (x := b.rules[i]) (s := n) hxo) ?_
          (repeat apply EX.in)
          refine NEED.mk rfl ?_
          refine IFF.mk (fun hb => ?_) (fun hb => ?_) <;> (try simp only [decide_eq_true_eq, decide_eq_false_iff_not, Bool.and_eq_true, Bool.or_eq_true, Bool.not_eq_true', Bool.not_eq_false', Bool.and_eq_false_iff, Bool.or_eq_false_iff, Bool.not_true, Bool.not_false, Int.not_lt, Int.not_le, Decidable.not_not, ne_eq] at hb)
          · have hus := hb
            refine EX.in es (NEED.mk ⟨q1, by simp, q2⟩ ⟨fun L3 hm3 hoth3 => ?_⟩)
            have hoth3' : ∀ k, k ≠ g → L3 k = L2 k := fun k hk => hoth3 k (by simp [mapBlock]; omega)
            refine ⟨fun g3 hM3 hL3 => ?_⟩
            have hng : g3 ≠ g := fun e => by
              rw [e] at hL3
              rcases hm3 with ⟨h, _⟩ | ⟨q, arr, cl, h1, h2, _⟩
              · cases h
              · injection h1 with h1; injection h1 with h1; subst h1; rw [hL3] at h2; cases h2
            have hmapq : MapF .string L2 g (takenV seen2) := ⟨es, q1, q2, q3⟩
            have hle3 : L.le L3 := fun k o hk => by
              rw [hoth3' k (fun e => by rw [e, hLg] at hk; cases hk)]; exact hO.le k o hk
            have hO3 : Owns L M2 L3 Value.string 9 1 A2 c2 items2 := hO.other hle3 fun k hc hk => hoth3' k (fun e => hO.notMap hmapq hc (by rw [← e]; exact hk))
            have hmap3 : MapF .string L3 g (takenV (seen2 ++ [b.rules[i].etype])) := by
              refine ⟨_, hm3, keys_mPut (d := .string) (k := .string b.rules[i].etype) trivial q2, fun k hkk => ?_⟩
              by_cases hkv : k = .string b.rules[i].etype
              · subst hkv; rw [mGet_mPut_self]; simp [takenV]
              · rw [mGet_mPut_ne _ _ hkv, q3 k hkk]
                cases k with
                | string u =>
                  have : ¬ b.rules[i].etype = u := fun h => hkv (by rw [h])
                  have e2 : (seen2 ++ [b.rules[i].etype]).any (fun v => decide (v = u)) = seen2.any (fun v => decide (v = u)) := by rw [List.any_append]; simp [this]
                  simp only [takenV]
                  rw [e2]
                | _ => rfl
            have hun := unseen_push (rules := b.rules) (seen := seen2) (x := b.rules[i]) (List.getElem_mem hlt) (by simpa only [Bool.not_eq_true] using hin)
            refine GROW.use (toV := Value.string) (news := [b.rules[i].etype]) (hO3.newM hL3) hstr1 hstr2 rfl (ReadsL.one (x := b.rules[i].etype) (Mem.upd_self _ _ _)) (by decide) (by omega) fun A' c' L' hO' hsame => ?_
            refine NEED.mk (by unfold inI64; omega) ?_
            refine NEED.mk ⟨rfl, rfl⟩ ?_
            rw [show items2.length + 1 = (items2 ++ [b.rules[i].etype]).length by simp]
            refine hag2 (items2 ++ [b.rules[i].etype], A', c', i + 1, seen2 ++ [b.rules[i].etype], _, L') ⟨hlt, hO', hmap3.congr (hsame g hmap3.there (hO3.notMap hmap3)), (Mem.upd_ne _ _ (Ne.symm hng)).trans hMg2, hSk.push hlt ⟨by simpa [emptyS] using hne, hus⟩, by simp; omega⟩ (by dsimp only; omega)
          · refine NEED.mk (by unfold inI64; omega) ?_
            refine NEED.mk ⟨rfl, rfl⟩ ?_
            exact skip fun hf => by have := hf.2; rw [hb] at this; cases this
      · refine IFF.f (IFF.f ?_)
        refine NEED.mk (by unfold inI64; omega) ?_
        refine NEED.mk ⟨rfl, rfl⟩ ?_
        exact skip fun hf => absurd hb hf.1
    · refine NEED.mk ⟨rfl, rfl⟩ ?_
      exact hag (items2, A2, c2, seen2, M2, L2) ⟨hmap2, hMg2, hO.le, hSk.end (by omega), by simp at hlen ⊢; omega, .inl hO⟩ (by simp; omega)
/-- Does an event come of events of its own type? -/
def endlessF (b : Bok) : Bool := b.types.any fun t => comesF b.rules t.name b.rules.length t.name
theorem seen_reach {rules : List Rul} {seen : List ByteArray} {s : ByteArray} (h : ∀ u, u ∈ seen ↔ Reach rules s u) : seen.any (fun u => decide (u = s)) = comesF rules s rules.length s := by
  rw [Bool.eq_iff_iff, comesF_reach, ← h, List.any_eq_true]
  constructor
  · rintro ⟨u, hu, he⟩; rw [← of_decide_eq_true he]; exact hu
  · intro hs; exact ⟨s, hs, by simp⟩
theorem cEndless_2_ok {b : Bok} {t : Typ} {c0 c1 : Option Addr} {M L : Mem} (hb : b.Ok M) (h5 : b.rules.length ≤ 5) (hc : ReadsAt M c0 0 (.func (.func 39) #[] #[.pointer c1])) (hc1 : ReadsAt M c1 0 b.toV) :
    Pure Tryd.prog 42 #[t.toV, .pointer c0] M L (.bool (comesF b.rules t.name b.rules.length t.name)) := by
  refine Pure.of' (cEndless_2_spec ?_)
  unfold vc_cEndless_2
  refine EX.in 39 (EX.in [] (EX.in [.pointer c1] (NEED.mk hc (NEED.mk (by kernel_rfl) ?_))))
  refine CALL.post (cEndless_1_ok (s := t.name) hb h5 hc1) ?_
  rintro v M' L' hM ⟨r, seen, rfl, hmap, hseen, hMr, hle⟩
  refine EX.in _ (NEED.mk rfl ?_)
  obtain ⟨es, q1, q2, q3⟩ := hmap
  have hget := q3 (.string t.name) trivial
  simp only [takenV] at hget
  have hs := seen_reach hseen
  refine EX.in es ?_
  rw [← hs]
  by_cases hin : seen.any (fun u => decide (u = t.name)) = true
  · rw [if_pos hin] at hget
    exact EX.in true (EX.in true (NEED.mk ⟨q1.up hMr, q2, by rw [hget]; rfl, fun h => by cases h⟩ ⟨by rw [hin], hle⟩))
  · rw [if_neg hin] at hget
    rw [Bool.not_eq_true] at hin
    exact EX.in false (EX.in false (NEED.mk ⟨q1.up hMr, q2, by rw [hget]; rfl, fun _ => rfl⟩ ⟨by rw [hin], hle⟩))
theorem cEndless_ok {b : Bok} {M L : Mem} (hb : b.Ok M) (h5 : b.rules.length ≤ 5) : Pure Tryd.prog 17 #[b.toV] M L (.bool (endlessF b)) := by
  refine Pure.of' (cEndless_spec ?_)
  unfold vc_cEndless
  refine ⟨fun g1 hM1 hL1 => ⟨fun g2 hM2 hL2 => ?_⟩⟩
  obtain ⟨n21, hL2'⟩ := Mem.upd_none hL2
  refine ⟨⟨_, _, _, rfl, rfl, Mem.upd_self _ _ _, by simp, ?_⟩⟩
  have hfn2 : isFn Tryd.prog 42 = true := by kernel_rfl
  generalize hL3 : Mem.upd _ _ _ = L3
  obtain ⟨t1, q1⟩ : ∃ t, L3 g1 = some (.cells #[.slice b.tA b.types.length b.tc, .slice b.rA b.rules.length b.rc] t (0, 0)) :=
    ⟨_, by rw [← hL3, Mem.upd_ne _ _ (Ne.symm n21), Mem.upd_ne _ _ (Ne.symm n21), Mem.upd_self]⟩
  obtain ⟨t2, q2⟩ : ∃ t, L3 g2 = some (.cells #[.func (.func 39) #[] #[.pointer (some ⟨g1, 0, none⟩)]] t (0, 0)) :=
    ⟨_, by rw [← hL3, Mem.upd_self]; simp; rfl⟩
  have hle : L.le L3 := fun k o hk => by
    have k1 : k ≠ g1 := fun e => by rw [e, hL1] at hk; cases hk
    have k2 : k ≠ g2 := fun e => by rw [e, hL2'] at hk; cases hk
    rw [← hL3, Mem.upd_ne _ _ k2, Mem.upd_ne _ _ k2, Mem.upd_ne _ _ k1]; exact hk
  have w1 : ReadsAt (Mem.or M L3) (some ⟨g1, 0, none⟩) 0 b.toV := ⟨_, rfl, fun j u hu => by
    rw [own_add]
    simp only [mcell, Mem.or, hM1, q1]
    simpa [Bok.toV, Value.cells] using hu⟩
  have w2 : ReadsAt (Mem.or M L3) (some ⟨g2, 0, none⟩) 0 (.func (.func 39) #[] #[.pointer (some ⟨g1, 0, none⟩)]) := ReadsAt.cell (by simp only [Mem.or, hM2]; exact q2) rfl
  have hb' := hb.mono (Mem.le_or M L3)
  have ct := Pure.borrow (M := M) (L := L3) (slContainsFuncType_ok (first := []) (cap := [.pointer (some ⟨g2, 0, none⟩)]) (g := fun t => comesF b.rules t.name b.rules.length t.name) (by rfl) hfn2 hb'.types fun t _ => cEndless_2_ok hb' h5 w2 w1)
  refine NEED.mk (by simp) ?_
  (repeat apply EX.in)
  refine NEED.mk (ReadsAt.sub w1 0 (by simp) rfl) ?_
  refine CALL.pure ct (EX.in _ (NEED.mk rfl ?_))
  exact ⟨rfl, hle⟩
end Go.Proofs.YthaamalgeieijabDoor
