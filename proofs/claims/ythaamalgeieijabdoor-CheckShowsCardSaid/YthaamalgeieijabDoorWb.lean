/- Contracts of what writes tokens, on the program's side: conditions, patterns, options, rules. No condition. -/
import Derived.Test.YthaamalgeieijabDoorWa
import Derived.Test.YthaamalgeieijabDoorFd
import Derived.Test.YthaamalgeieijabDoorGc
set_option linter.unusedVariables false
set_option linter.unusedSimpArgs false
namespace Go.Proofs.YthaamalgeieijabDoor
open Go

theorem wWithin_of {g : Nat} {c : Cnd} {b : Bool} {items : List Tok} {L0 M L : Mem} (hW : Wr L0 M L g items) (hB : items.length + (brT b (condT c)).length ≤ 1099511627776)
    (h : ∀ M' L' items', M.le M' → Wr L0 M' L' g items' → items'.length + (condT c).length ≤ 1099511627776 → Puts Tryd.prog 43 #[.pointer (some ⟨g, 0, none⟩), c.toV] L0 M' L' g items' (condT c)) :
    Puts Tryd.prog 68 #[.pointer (some ⟨g, 0, none⟩), c.toV, .bool b] L0 M L g items (brT b (condT c)) := by
  refine Puts.of (wWithin_spec ?_)
  unfold vc_wWithin
  cases b with
  | true =>
    have e : brT true (condT c) = [word (ByteArray.mk #[40])] ++ condT c ++ [word (ByteArray.mk #[41])] := rfl
    rw [e] at hB ⊢
    simp only [List.length_append, List.length_cons, List.length_nil] at hB
    refine JOIN.gen (fun x : Mem × Mem => ([], [], x.1, x.2)) (fun x => M.le x.1 ∧ Wr L0 x.1 x.2 g (items ++ [word (ByteArray.mk #[40])])) (fun nx hnx => ?_) ?_
    · refine IFF.t ?_
      refine PUTW hW ([(ByteArray.mk #[40])]) (by intro s hs; simp at hs; (try rcases hs with rfl | rfl | rfl) <;> (try subst hs) <;> first | omega | decide) (by simp only [List.length_append, List.length_cons, List.length_nil, List.length_map, List.length_nil]; omega) fun M1 L1 hM1 hW => ?_
      refine NEED.mk rfl ?_
      refine NEED.mk ⟨rfl, rfl⟩ ?_
      exact hnx (M1, L1) ⟨hM1, hW⟩
    rintro ⟨M1, L1⟩ _ ⟨hM1, hW⟩
    dsimp only at hM1 hW ⊢
    refine NEED.mk ⟨rfl, rfl⟩ ?_
    refine CALL.puts (h M1 L1 _ hM1 hW (by simp; omega)) fun L2 hW => ?_
    refine NEED.mk rfl ?_
    refine IFF.t ?_
    refine PUTW hW ([(ByteArray.mk #[41])]) (by intro s hs; simp at hs; (try rcases hs with rfl | rfl | rfl) <;> (try subst hs) <;> first | omega | decide) (by simp only [List.length_append, List.length_cons, List.length_nil, List.length_map, List.length_nil]; omega) fun M3 L3 hM3 hW => ?_
    refine NEED.mk rfl ?_
    refine ⟨rfl, ?_⟩
    simpa using hW
  | false =>
    have e : brT false (condT c) = condT c := rfl
    rw [e] at hB ⊢
    refine JOIN.gen (fun x : Mem × Mem => ([], [], x.1, x.2)) (fun x => M.le x.1 ∧ Wr L0 x.1 x.2 g items) (fun nx hnx => ?_) ?_
    · refine IFF.f ?_
      refine NEED.mk ⟨rfl, rfl⟩ ?_
      exact hnx (M, L) ⟨Mem.le_refl _, hW⟩
    rintro ⟨M1, L1⟩ _ ⟨hM1, hW⟩
    dsimp only at hM1 hW ⊢
    refine NEED.mk ⟨rfl, rfl⟩ ?_
    refine CALL.puts (h M1 L1 _ hM1 hW (by omega)) fun L2 hW => ?_
    refine NEED.mk rfl ?_
    exact IFF.f ⟨rfl, hW⟩
theorem wCondition_ok {g : Nat} : ∀ (n : Nat) (c : Cnd) {L0 M L : Mem} {items : List Tok}, SizeOf.sizeOf c ≤ n → c.Fine → c.Ok M → Wr L0 M L g items → items.length + (condT c).length ≤ 1099511627776 → Puts Tryd.prog 43 #[.pointer (some ⟨g, 0, none⟩), c.toV] L0 M L g items (condT c) := by
  intro n
  induction n with
  | zero => intro c L0 M L items hn; cases c; simp at hn
  | succ n ih =>
    intro c L0 M L items hn hf hc hW hB
    refine Puts.of (wCondition_spec ?_)
    unfold vc_wCondition
    have e := condT_eq c
    refine IFF.mk (fun hb => ?_) (fun hb => ?_) <;> (try simp only [decide_eq_true_eq, decide_eq_false_iff_not, Bool.and_eq_true, Bool.or_eq_true, Bool.not_eq_true', Bool.not_eq_false', Bool.and_eq_false_iff, Bool.or_eq_false_iff, Bool.not_true, Bool.not_false, Int.not_lt, Int.not_le, Decidable.not_not, ne_eq] at hb)
    · rw [if_pos hb] at e
      obtain ⟨x, hs, hx⟩ : ∃ x, c.subs = [x] ∧ x.Fine := by
        cases hf with
        | cmp h => omega
        | not h hs hx => exact ⟨_, hs, hx⟩
        | many h => omega
      have hlen1 : c.subs.length = 1 := by rw [hs]; rfl
      have hx0 : c.subs[0] = x := by simp [hs]
      rw [hs] at e
      dsimp only at e
      have hsz := sub_size (c := c) (x := x) (by rw [hs]; simp)
      rw [e] at hB ⊢
      simp only [List.length_cons] at hB
      refine PUTW hW ([(ByteArray.mk #[110, 111, 116])]) (by intro s hs; simp at hs; (try rcases hs with rfl | rfl | rfl) <;> (try subst hs) <;> first | omega | decide) (by simp only [List.length_append, List.length_cons, List.length_nil, List.length_map, List.length_nil]; omega) fun M1 L1 hM1 hW => ?_
      have hc := hc.mono hM1
      refine NEED.mk rfl ?_
      have hr := hc.row.cell 0 (by omega)
      have hxo := hc.sub x (by rw [hs]; simp)
      rw [hx0, Nat.zero_mul] at hr
      refine NEED.mk ⟨hr.ne, by omega, by omega⟩ ?_
      (repeat apply EX.in)
      refine NEED.mk hr ?_
      refine NEED.mk ⟨hr.ne, by omega, by omega⟩ ?_
      (repeat apply EX.in)
      refine NEED.mk (ReadsAt.sub hr 0 (by simp) rfl) ?_
      refine CALL.puts (wWithin_of (b := decide (x.kind ≤ 2)) hW (by simp; omega) fun M' L' items' hM' hW' hB' => ih x (by omega) hx (hxo.mono hM') hW' hB') fun L2 hW => ?_
      refine NEED.mk rfl ?_
      refine ⟨rfl, ?_⟩
      simpa using hW
    rw [if_neg hb] at e
    refine JOIN.at (L := L) (fun b : Bool => [.bool b]) (fun b => b = decide (c.kind = 1 ∨ c.kind = 2)) (fun nx hnx => ?_) (fun b hbb => ?_)
    · refine IFF.mk (fun hb => ?_) (fun hb => ?_) <;> (try simp only [decide_eq_true_eq, decide_eq_false_iff_not, Bool.and_eq_true, Bool.or_eq_true, Bool.not_eq_true', Bool.not_eq_false', Bool.and_eq_false_iff, Bool.or_eq_false_iff, Bool.not_true, Bool.not_false, Int.not_lt, Int.not_le, Decidable.not_not, ne_eq] at hb)
      · refine NEED.mk ⟨rfl, rfl⟩ ?_
        exact hnx _ (by simp [hb])
      · refine NEED.mk ⟨rfl, rfl⟩ ?_
        exact hnx _ (by simp [hb])
    (repeat apply EX.in)
    refine NEED.mk ⟨rfl, rfl⟩ ?_
    subst hbb
    refine IFF.mk (fun hb => ?_) (fun hb => ?_) <;> (try simp only [decide_eq_true_eq, decide_eq_false_iff_not, Bool.and_eq_true, Bool.or_eq_true, Bool.not_eq_true', Bool.not_eq_false', Bool.and_eq_false_iff, Bool.or_eq_false_iff, Bool.not_true, Bool.not_false, Int.not_lt, Int.not_le, Decidable.not_not, ne_eq] at hb)
    · rw [if_pos hb] at e
      have hk12 := hb
      have hall : ∀ x ∈ c.subs, x.Fine := by
        cases hf with
        | cmp h => omega
        | not h => omega
        | many h hs => exact hs
      rw [e] at hB ⊢
      have hlen := hc.row.len
      refine LOOP.gen (fun x : List Tok × Nat × Mem × Mem => ([.int .i64 (x.2.1 : Int)], [], x.2.2.1, x.2.2.2)) (fun x => x.2.1 ≤ c.subs.length ∧ Wr L0 x.2.2.1 x.2.2.2 g (items ++ x.1) ∧ subsT c.kind true c.subs = x.1 ++ subsT c.kind (decide (x.2.1 = 0)) (c.subs.drop x.2.1)) (fun x => c.subs.length - x.2.1) ([], 0, M, L) rfl ⟨Nat.zero_le _, by simpa using hW, rfl⟩ ?_
      rintro ⟨out, j, M1, L1⟩ again hM1 ⟨hj, hW, hI⟩ hag
      dsimp only at hM1 hj hW hI hag ⊢
      have hc := hc.mono hM1
      (repeat apply EX.in)
      refine NEED.mk ⟨rfl, rfl⟩ ?_
      refine IFF.mk (fun hb => ?_) (fun hb => ?_) <;> (try simp only [decide_eq_true_eq, decide_eq_false_iff_not, Bool.and_eq_true, Bool.or_eq_true, Bool.not_eq_true', Bool.not_eq_false', Bool.and_eq_false_iff, Bool.or_eq_false_iff, Bool.not_true, Bool.not_false, Int.not_lt, Int.not_le, Decidable.not_not, ne_eq] at hb)
      · have hlt : j < c.subs.length := by simpa using hb
        have hr := (hc.row).cell j hlt
        have hd := drop_step hlt
        refine NEED.mk ⟨hr.ne, by omega, by omega⟩ ?_
        rw [hd, subsT_cons] at hI
        have hl := congrArg List.length hI
        simp only [List.length_append] at hl
        have hmem := List.getElem_mem hlt
        have hsz := sub_size (c := c) hmem
        have hxo := hc.sub _ hmem
        have hbe : (decide (c.subs[j].kind = c.kind) || decide (c.subs[j].kind = 2)) = decide (c.subs[j].kind = c.kind ∨ c.subs[j].kind = 2) := by rw [Bool.decide_or]
        (repeat apply EX.in)
        refine NEED.mk (by first | exact hr.up | exact hr) ?_
        refine IFF.mk (fun hb => ?_) (fun hb => ?_) <;> (try simp only [decide_eq_true_eq, decide_eq_false_iff_not, Bool.and_eq_true, Bool.or_eq_true, Bool.not_eq_true', Bool.not_eq_false', Bool.and_eq_false_iff, Bool.or_eq_false_iff, Bool.not_true, Bool.not_false, Int.not_lt, Int.not_le, Decidable.not_not, ne_eq] at hb)
        · rw [if_neg (by simp; omega)] at hI hl
          simp only [List.length_cons, List.length_nil] at hl
          refine NEED.mk ⟨by omega, by omega⟩ ?_
          have hs : strAt [emptyS, (ByteArray.mk #[97, 110, 100]), (ByteArray.mk #[111, 114])] c.kind.toNat = if c.kind = 1 then (ByteArray.mk #[97, 110, 100]) else (ByteArray.mk #[111, 114]) := by
            rcases hk12 with h | h <;> rw [h] <;> rfl
          have hs2 : 0 < (if c.kind = 1 then (ByteArray.mk #[97, 110, 100]) else (ByteArray.mk #[111, 114])).size := by split <;> decide
          rw [show (ByteArray.mk #[]) = emptyS from rfl, hs, hbe]
          refine PUTW hW ([if c.kind = 1 then (ByteArray.mk #[97, 110, 100]) else (ByteArray.mk #[111, 114])]) (by intro s hs; simp at hs; (try rcases hs with rfl | rfl | rfl) <;> (try subst hs) <;> first | omega | decide) (by simp only [List.length_append, List.length_cons, List.length_nil, List.length_map, List.length_nil]; omega) fun M1 L1 hM1 hW => ?_
          have hxo := hxo.mono hM1
          refine NEED.mk rfl ?_
          refine CALL.puts (wWithin_of (c := c.subs[j]) (b := decide (c.subs[j].kind = c.kind ∨ c.subs[j].kind = 2)) hW (by simp only [List.length_append, List.length_map, List.length_cons, List.length_nil]; omega) fun M' L' items' hM' hW' hB' => ih _ (by omega) (hall _ hmem) (hxo.mono hM') hW' hB') fun L2 hW => ?_
          refine NEED.mk rfl ?_
          refine NEED.mk (by unfold inI64; omega) ?_
          refine NEED.mk ⟨rfl, rfl⟩ ?_
          refine hag (out ++ [word (if c.kind = 1 then (ByteArray.mk #[97, 110, 100]) else (ByteArray.mk #[111, 114]))] ++ brT (decide (c.subs[j].kind = c.kind ∨ c.subs[j].kind = 2)) (condT c.subs[j]), j + 1, M1, L2) ⟨hlt, by simpa using hW, ?_⟩ (by dsimp only; omega)
          dsimp only
          rw [hI, show decide (j + 1 = 0) = false by simp]
          simp only [List.append_assoc]
        · rw [if_pos (by simp; omega), List.nil_append] at hI
          rw [if_pos (by simp; omega)] at hl
          simp only [List.length_nil] at hl
          rw [hbe]
          refine CALL.puts (wWithin_of (c := c.subs[j]) (b := decide (c.subs[j].kind = c.kind ∨ c.subs[j].kind = 2)) hW (by simp only [List.length_append, List.length_map, List.length_cons, List.length_nil]; omega) fun M' L' items' hM' hW' hB' => ih _ (by omega) (hall _ hmem) (hxo.mono hM') hW' hB') fun L2 hW => ?_
          refine NEED.mk rfl ?_
          refine NEED.mk (by unfold inI64; omega) ?_
          refine NEED.mk ⟨rfl, rfl⟩ ?_
          refine hag (out ++ brT (decide (c.subs[j].kind = c.kind ∨ c.subs[j].kind = 2)) (condT c.subs[j]), j + 1, M1, L2) ⟨hlt, by simpa using hW, ?_⟩ (by dsimp only; omega)
          dsimp only
          rw [hI, show decide (j + 1 = 0) = false by simp]
          simp only [List.append_assoc]
      · have hd := drop_end (j := j) (l := c.subs) (by omega)
        rw [hd, subsT, List.append_nil] at hI
        exact ⟨rfl, by rw [hI]; exact hW⟩
    · rw [if_neg hb] at e
      obtain ⟨h4, h7, hl, hr⟩ : 4 ≤ c.kind ∧ c.kind ≤ 7 ∧ c.l.Fine ∧ c.r.Fine := by
        cases hf with
        | cmp h h7 l r => exact ⟨h, h7, l, r⟩
        | not h => omega
        | many h => omega
      rw [e] at hB ⊢
      simp only [List.length_append, List.length_cons, List.length_nil] at hB
      refine CALL.puts (wSide_ok hW hl (by omega)) fun L1 hW => ?_
      refine NEED.mk rfl ?_
      refine NEED.mk (by unfold inI64; omega) ?_
      refine NEED.mk ⟨by omega, by omega⟩ ?_
      obtain ⟨i, hi, hi4⟩ : ∃ i : Nat, c.kind = 4 + (i : Int) ∧ i < 4 := ⟨(c.kind - 4).toNat, by omega, by omega⟩
      have hs : strAt [(ByteArray.mk #[61]), (ByteArray.mk #[47, 61]), (ByteArray.mk #[60]), (ByteArray.mk #[60, 61])] (c.kind - 4).toNat = cmpW c.kind ∧ 0 < (cmpW c.kind).size := by
        have : (c.kind - 4).toNat = i := by omega
        rw [this, hi]
        have : i = 0 ∨ i = 1 ∨ i = 2 ∨ i = 3 := by omega
        rcases this with rfl | rfl | rfl | rfl <;> exact ⟨rfl, by decide⟩
      have hs2 := hs.2
      rw [hs.1]
      refine PUTW hW ([cmpW c.kind]) (by intro s hs; simp at hs; (try rcases hs with rfl | rfl | rfl) <;> (try subst hs) <;> first | omega | decide) (by simp only [List.length_append, List.length_cons, List.length_nil, List.length_map, List.length_nil]; omega) fun M2 L2 hM2 hW => ?_
      refine NEED.mk rfl ?_
      refine CALL.puts (wSide_ok hW hr (by simp; omega)) fun L3 hW => ?_
      refine NEED.mk rfl ?_
      exact ⟨rfl, by simpa using hW⟩
theorem wPattern_ok {g : Nat} {p : Pat} {items : List Tok} {L0 M L : Mem} (hW : Wr L0 M L g items) (hf : p.Fine) (hp : p.Ok M) (hB : items.length + (patT p).length ≤ 1099511627776) : Puts Tryd.prog 18 #[.pointer (some ⟨g, 0, none⟩), p.toV] L0 M L g items (patT p) := by
  refine Puts.of (wPattern_spec ?_)
  unfold vc_wPattern
  obtain ⟨n1, n2, hw, _⟩ := hf
  have h1 := (name_chars n1).2.2.1
  have h2 := (name_chars n2).2.2.1
  have e : patT p = [word p.var, word (ByteArray.mk #[58]), word p.type] ++ if p.whr.kind ≠ 0 then [word (ByteArray.mk #[91])] ++ condT p.whr ++ [word (ByteArray.mk #[93])] else [] := rfl
  rw [e] at hB ⊢
  simp only [List.length_append, List.length_cons, List.length_nil] at hB
  refine PUTW hW ([p.var, (ByteArray.mk #[58]), p.type]) (by intro s hs; simp at hs; (try rcases hs with rfl | rfl | rfl) <;> (try subst hs) <;> first | omega | decide) (by simp only [List.length_append, List.length_cons, List.length_nil, List.length_map, List.length_nil]; omega) fun M1 L1 hM1 hW => ?_
  have hp := hp.mono hM1
  refine NEED.mk rfl ?_
  refine IFF.mk (fun hb => ?_) (fun hb => ?_) <;> (try simp only [decide_eq_true_eq, decide_eq_false_iff_not, Bool.and_eq_true, Bool.or_eq_true, Bool.not_eq_true', Bool.not_eq_false', Bool.and_eq_false_iff, Bool.or_eq_false_iff, Bool.not_true, Bool.not_false, Int.not_lt, Int.not_le, Decidable.not_not, ne_eq] at hb)
  · rw [if_pos hb] at hB ⊢
    simp only [List.length_append, List.length_cons, List.length_nil] at hB
    have hwf : p.whr.Fine := by rcases hw with h | h; exact absurd h hb; exact h.2
    refine PUTW hW ([(ByteArray.mk #[91])]) (by intro s hs; simp at hs; (try rcases hs with rfl | rfl | rfl) <;> (try subst hs) <;> first | omega | decide) (by simp only [List.length_append, List.length_cons, List.length_nil, List.length_map, List.length_nil]; omega) fun M2 L2 hM2 hW => ?_
    have hp := hp.mono hM2
    refine NEED.mk rfl ?_
    refine CALL.puts (wCondition_ok _ p.whr (Nat.le_refl _) hwf hp.whr hW (by simp; omega)) fun L3 hW => ?_
    refine NEED.mk rfl ?_
    refine PUTW hW ([(ByteArray.mk #[93])]) (by intro s hs; simp at hs; (try rcases hs with rfl | rfl | rfl) <;> (try subst hs) <;> first | omega | decide) (by simp only [List.length_append, List.length_cons, List.length_nil, List.length_map, List.length_nil]; omega) fun M4 L4 hM4 hW => ?_
    refine NEED.mk rfl ?_
    exact ⟨rfl, by simpa using hW⟩
  · rw [if_neg (by simpa using hb), List.append_nil]
    exact ⟨rfl, by simpa using hW⟩
theorem wOption_ok {g : Nat} {o : Opt} {items : List Tok} {L0 M L : Mem} (hW : Wr L0 M L g items) (hT : Tab M) (hf : o.Fine) (hB : items.length + (optT o).length ≤ 1099511627776) : Puts Tryd.prog 20 #[.pointer (some ⟨g, 0, none⟩), o.toV] L0 M L g items (optT o) := by
  refine Puts.of (wOption_spec ?_)
  unfold vc_wOption
  obtain ⟨q, hq, q1, q2, q3, q4⟩ := optW hf
  have hlow := hf.2.2
  have hrc := hT.rel.cell q hq
  have q5 : 0 < relW[q].size := by
    have h14 : q < 14 := hq
    have : q = 1 ∨ q = 2 ∨ q = 3 ∨ q = 4 ∨ q = 5 ∨ q = 6 ∨ q = 7 ∨ q = 8 ∨ q = 9 ∨ q = 10 ∨ q = 11 ∨ q = 12 ∨ q = 13 := by have := hf.1; omega
    rcases this with rfl | rfl | rfl | rfl | rfl | rfl | rfl | rfl | rfl | rfl | rfl | rfl | rfl <;> exact of_decide_eq_true rfl
  have eo : optT o = [word relW[q]] ++ (if o.low = 0 ∧ o.high < 0 then [] else [word (ByteArray.mk #[40])] ++ numT o.low ++ [word (ByteArray.mk #[44])] ++ (if o.high < 0 then [word (ByteArray.mk #[97, 110, 121])] else numT o.high) ++ [word (ByteArray.mk #[41])]) := by
    rw [optT, q2]
  rw [eo] at hB ⊢
  simp only [List.length_append, List.length_cons, List.length_nil] at hB
  rw [q1]
  refine NEED.mk ⟨by simp, by omega, by have : relW.length = 14 := rfl; omega⟩ ?_
  apply EX.in
  refine NEED.mk hrc.up ?_
  refine PUTW hW ([relW[q]]) (by intro s hs; simp at hs; (try rcases hs with rfl | rfl | rfl) <;> (try subst hs) <;> first | omega | decide) (by simp only [List.length_append, List.length_cons, List.length_nil, List.length_map, List.length_nil]; omega) fun M1 L1 hM1 hW => ?_
  refine NEED.mk rfl ?_
  refine IFF.mk (fun hb => ?_) (fun hb => ?_) <;> (try simp only [decide_eq_true_eq, decide_eq_false_iff_not, Bool.and_eq_true, Bool.or_eq_true, Bool.not_eq_true', Bool.not_eq_false', Bool.and_eq_false_iff, Bool.or_eq_false_iff, Bool.not_true, Bool.not_false, Int.not_lt, Int.not_le, Decidable.not_not, ne_eq] at hb)
  · rw [if_pos hb]
    exact ⟨rfl, by simpa using hW⟩
  rw [if_neg (by omega)] at hB ⊢
  simp only [List.length_append, List.length_cons, List.length_nil] at hB
  refine PUTW hW ([(ByteArray.mk #[40])]) (by intro s hs; simp at hs; (try rcases hs with rfl | rfl | rfl) <;> (try subst hs) <;> first | omega | decide) (by simp only [List.length_append, List.length_cons, List.length_nil, List.length_map, List.length_nil]; omega) fun M2 L2 hM2 hW => ?_
  refine NEED.mk rfl ?_
  refine CALL.puts (wNumber_ok (n := o.low) hW (by omega) (by simp; omega)) fun L3 hW => ?_
  refine NEED.mk rfl ?_
  refine PUTW hW ([(ByteArray.mk #[44])]) (by intro s hs; simp at hs; (try rcases hs with rfl | rfl | rfl) <;> (try subst hs) <;> first | omega | decide) (by simp only [List.length_append, List.length_cons, List.length_nil, List.length_map, List.length_nil]; omega) fun M4 L4 hM4 hW => ?_
  refine NEED.mk rfl ?_
  refine IFF.mk (fun hb => ?_) (fun hb => ?_) <;> (try simp only [decide_eq_true_eq, decide_eq_false_iff_not, Bool.and_eq_true, Bool.or_eq_true, Bool.not_eq_true', Bool.not_eq_false', Bool.and_eq_false_iff, Bool.or_eq_false_iff, Bool.not_true, Bool.not_false, Int.not_lt, Int.not_le, Decidable.not_not, ne_eq] at hb)
  · rw [if_pos hb] at hB ⊢
    simp only [List.length_cons, List.length_nil] at hB
    refine PUTW hW ([(ByteArray.mk #[97, 110, 121])]) (by intro s hs; simp at hs; (try rcases hs with rfl | rfl | rfl) <;> (try subst hs) <;> first | omega | decide) (by simp only [List.length_append, List.length_cons, List.length_nil, List.length_map, List.length_nil]; omega) fun M5 L5 hM5 hW => ?_
    refine NEED.mk rfl ?_
    refine PUTW hW ([(ByteArray.mk #[41])]) (by intro s hs; simp at hs; (try rcases hs with rfl | rfl | rfl) <;> (try subst hs) <;> first | omega | decide) (by simp only [List.length_append, List.length_cons, List.length_nil, List.length_map, List.length_nil]; omega) fun M6 L6 hM6 hW => ?_
    refine NEED.mk rfl ?_
    exact ⟨rfl, by simpa using hW⟩
  · rw [if_neg (by omega)] at hB ⊢
    refine CALL.puts (wNumber_ok (n := o.high) hW (by omega) (by simp; omega)) fun L5 hW => ?_
    refine NEED.mk rfl ?_
    refine PUTW hW ([(ByteArray.mk #[41])]) (by intro s hs; simp at hs; (try rcases hs with rfl | rfl | rfl) <;> (try subst hs) <;> first | omega | decide) (by simp only [List.length_append, List.length_cons, List.length_nil, List.length_map, List.length_nil]; omega) fun M6 L6 hM6 hW => ?_
    refine NEED.mk rfl ?_
    exact ⟨rfl, by simpa using hW⟩
end Go.Proofs.YthaamalgeieijabDoor
