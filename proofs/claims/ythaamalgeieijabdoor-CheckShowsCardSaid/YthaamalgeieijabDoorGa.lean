/- Contracts of what makes tokens, on the reference's side: joining lists, cutting texts, numbers. No condition. -/
import Derived.Test.YthaamalgeieijabDoorFc
import Derived.Test.YthaamalgeieijabDoorCa
import Derived.Test.YthaamalgeieijabDoorVcT
set_option linter.unusedVariables false
set_option linter.unusedSimpArgs false
namespace Go.Proofs.YthaamalgeieijabDoor
open Go

/-- A slice of tokens, with its place. -/
structure TS where
  A : Option Addr
  c : Nat
  l : List Tok
def TS.toV (t : TS) : Value := .slice t.A t.l.length t.c
def Gives (M : Mem) (v : Value) (l : List Tok) : Prop := ∃ t : TS, t.l = l ∧ v = t.toV ∧ Row M Tok.toV 3 t.A t.c t.l
def Has (M : Mem) (ts : List TS) : Prop := ∀ t ∈ ts, Row M Tok.toV 3 t.A t.c t.l
theorem Has.mono {M M' : Mem} {ts : List TS} (hM : M.le M') (h : Has M ts) : Has M' ts := fun t ht => (h t ht).mono hM
theorem Has.nil {M : Mem} : Has M [] := fun t ht => by cases ht
theorem Has.cons {M : Mem} {t : TS} {ts : List TS} (h : Row M Tok.toV 3 t.A t.c t.l) (h2 : Has M ts) : Has M (t :: ts) := fun u hu => by
  rcases List.mem_cons.1 hu with rfl | hu
  · exact h
  · exact h2 u hu
abbrev Makes (P : Program) (f : FuncId) (args : Array Value) (M L : Mem) (l : List Tok) : Prop := PSpec P f args M L fun v M' L' => Gives M' v l ∧ L' = L
theorem CALL.give {P : Program} {f : FuncId} {args : Array Value} {M L : Mem} {k : Value → Mem → Mem → Prop} {ts : List TS} {l : List Tok} (hH : Has M ts) (h : Makes P f args M L l)
    (hk : ∀ (t : TS) M', M.le M' → t.l = l → Has M' (t :: ts) → k (.slice t.A t.l.length t.c) M' L) : CALL P f args M L k :=
  CALL.post h fun v M' L' hM hp => by
    obtain ⟨⟨t, ht, rfl, hr⟩, rfl⟩ := hp
    exact hk t M' hM ht (.cons hr (hH.mono hM))
/-- What is owned at the end is given up. -/
theorem Owns.give {α : Type} {L0 M L : Mem} {toV : α → Value} {e : TypeId} {size : Nat} {A : Option Addr} {c : Nat} {items : List α} (h : Owns L0 M L toV e size A c items) (hf : ∀ x, (toV x).cells.size = size) : PUBD (fun M' L' => Row M' toV size A c items ∧ L' = L0) M L := by
  classical
  refine ⟨fun k => match M k with | some o => some o | none => if L0 k = none then L k else none, L0, ⟨fun k o hk => ?_, fun k o hk => ?_, fun k o hk => ⟨h.le k o hk, ?_⟩⟩, ⟨h.lt.1, h.lt.2, fun i hi => ?_⟩, rfl⟩
  · simp [hk]
  · cases hm : M k with
    | some o' => simp only [hm] at hk; injection hk with hk; exact .inl (by rw [hk])
    | none =>
      simp only [hm] at hk
      split at hk
      · exact .inr hk
      · cases hk
  · cases hm : M k with
    | some o' => rfl
    | none => simp [hk]
  · obtain ⟨a, hA, hc⟩ := (h.read hf).cell i hi
    refine ⟨a, hA, fun j u hu => ?_⟩
    have hx := hc j u hu
    rcases h.row.2 with ⟨_, h1, h2⟩ | ⟨g, off, cap, cur, h1, h2, h3, h4, h5, h6⟩
    · omega
    · have hg := h.off g (by have := h.lt.1; omega) (by rw [h1]; rfl)
      injection h1 with hA2 _ _
      subst hA2
      injection hA with hA
      subst hA
      rw [own_add] at hx ⊢
      simp only [mcell, Mem.or, hg.1, h2] at hx
      simp only [mcell, hg.1, hg.2, if_true, h2]
      exact hx
theorem Makes.of {P : Program} {f : FuncId} {args : Array Value} {M L : Mem} {l : List Tok} (h : PSpec P f args M L fun v M' L' => ∃ A c, v = .slice A l.length c ∧ Owns L M' L' Tok.toV 56 3 A c l) : Makes P f args M L l :=
  h.mono fun v M' L' _ hp => by
    obtain ⟨A, c, rfl, hO⟩ := hp
    obtain ⟨M2, L2, hpub, hr, hL⟩ := hO.give Tok.size3
    exact ⟨M2, L2, hpub, ⟨⟨A, c, l⟩, rfl, rfl, hr⟩, hL⟩
/-- A row of things that is a whole block. -/
theorem Row.blk {α : Type} {M : Mem} {n size : Nat} {toV : α → Value} {xs : List α} {t : TypeId} (hf : ∀ x, (toV x).cells.size = size) (h : M n = some (.cells (flatV toV xs).toArray t (0, 0))) (hl : xs.length ≤ maxLen) : Row M toV size (some ⟨n, 0, none⟩) xs.length xs :=
  ⟨Nat.le_refl _, hl, fun i hi => ⟨_, rfl, fun j u hu => by
    have hj : j < size := by have := (Array.getElem?_eq_some_iff.1 hu).1; rw [hf] at this; exact this
    rw [own_add, Nat.zero_add]
    simp only [mcell, h, Option.isSome_none, Bool.false_eq_true, if_false, List.getElem?_toArray]
    rw [flatV_get hf xs i j hi hj]; exact hu⟩⟩
theorem flatV_ts : ∀ (ts : List TS), flatV TS.toV ts = ts.map TS.toV
  | [] => rfl
  | t :: ts => by
    have := flatV_ts ts
    simp only [flatV, List.flatMap_cons, List.map_cons] at this ⊢
    rw [this]; rfl
theorem take_flat {α β : Type} (f : α → List β) {l : List α} {j : Nat} (h : j < l.length) : (l.take (j + 1)).flatMap f = (l.take j).flatMap f ++ f l[j] := by
  rw [take_step h, List.flatMap_append]; simp
theorem flat_le {α β : Type} (f : α → List β) (l : List α) (j : Nat) : ((l.take j).flatMap f).length ≤ (l.flatMap f).length := by
  conv => rhs; rw [← List.take_append_drop j l, List.flatMap_append, List.length_append]
  omega
theorem rTokens_ok {A : Option Addr} {n c : Nat} {ls : List TS} {M L : Mem} (hn : n = ls.length) (h : Row M TS.toV 1 A c ls) (hH : Has M ls) (hB : (ls.flatMap TS.l).length ≤ 1099511627776) : Makes Tryd.prog 11 #[.slice A n c] M L (ls.flatMap TS.l) := by
  subst hn
  refine Makes.of (rTokens_spec ?_)
  unfold vc_rTokens
  have hlen := h.len
  refine LOOP.gen (fun x : List Tok × Option Addr × Nat × Nat × Mem × Mem => ([.slice x.2.1 x.1.length x.2.2.1, .int .i64 (x.2.2.2.1 : Int)], [], x.2.2.2.2.1, x.2.2.2.2.2)) (fun x => x.2.2.2.1 ≤ ls.length ∧ x.1 = (ls.take x.2.2.2.1).flatMap TS.l ∧ Owns L x.2.2.2.2.1 x.2.2.2.2.2 Tok.toV 56 3 x.2.1 x.2.2.1 x.1)
    (fun x => ls.length - x.2.2.2.1) ([], none, 0, 0, M, L) rfl ⟨Nat.zero_le _, rfl, .nil⟩ ?_
  rintro ⟨items, B, d, j, M1, L1⟩ again hM1 ⟨hj, hI, hO⟩ hag
  dsimp only at hM1 hj hI hO hag ⊢
  (repeat apply EX.in)
  refine NEED.mk ⟨rfl, rfl⟩ ?_
  refine IFF.mk (fun hb => ?_) (fun hb => ?_) <;> (try simp only [decide_eq_true_eq, decide_eq_false_iff_not, Bool.and_eq_true, Bool.or_eq_true, Bool.not_eq_true', Bool.not_eq_false', Bool.and_eq_false_iff, Bool.or_eq_false_iff, Bool.not_true, Bool.not_false, Int.not_lt, Int.not_le, Decidable.not_not, ne_eq] at hb)
  · have hlt : j < ls.length := by omega
    have hr := (h.mono hM1).cell j hlt
    have htf := take_flat TS.l hlt
    have hrow := (hH.mono hM1) _ (List.getElem_mem hlt)
    have hl2 := hrow.len
    have hle := flat_le TS.l ls (j + 1)
    rw [htf, List.length_append] at hle
    refine LOOP.gen (fun x : List Tok × Option Addr × Nat × Nat × Mem × Mem => ([.slice x.2.1 x.1.length x.2.2.1, .int .i64 (x.2.2.2.1 : Int)], [], x.2.2.2.2.1, x.2.2.2.2.2)) (fun x => x.2.2.2.1 ≤ ls[j].l.length ∧ x.1 = (ls.take j).flatMap TS.l ++ ls[j].l.take x.2.2.2.1 ∧ Owns L x.2.2.2.2.1 x.2.2.2.2.2 Tok.toV 56 3 x.2.1 x.2.2.1 x.1)
      (fun x => ls[j].l.length - x.2.2.2.1) (items, B, d, 0, M1, L1) rfl ⟨Nat.zero_le _, by simpa using hI, hO⟩ ?_
    rintro ⟨items2, B2, d2, i, M2, L2⟩ again2 hM2 ⟨hi, hI2, hO2⟩ hag2
    dsimp only at hM2 hi hI2 hO2 hag2 ⊢
    have hr2 := hr.mono hM2
    have hrow2 := hrow.mono hM2
    (repeat apply EX.in)
    refine NEED.mk ⟨rfl, rfl⟩ ?_
    refine NEED.mk ⟨hr.ne, by omega, by omega⟩ ?_
    (repeat apply EX.in)
    refine NEED.mk hr2.up ?_
    refine IFF.mk (fun hb => ?_) (fun hb => ?_) <;> (try simp only [decide_eq_true_eq, decide_eq_false_iff_not, Bool.and_eq_true, Bool.or_eq_true, Bool.not_eq_true', Bool.not_eq_false', Bool.and_eq_false_iff, Bool.or_eq_false_iff, Bool.not_true, Bool.not_false, Int.not_lt, Int.not_le, Decidable.not_not, ne_eq] at hb)
    · have hlt2 : i < ls[j].l.length := by omega
      have hs := take_step hlt2
      have hr3 := hrow2.cell i hlt2
      refine NEED.mk ⟨hr.ne, by omega, by omega⟩ ?_
      (repeat apply EX.in)
      refine NEED.mk hr2.up ?_
      refine NEED.mk ⟨hr3.ne, by omega, by omega⟩ ?_
      (repeat apply EX.in)
      refine NEED.mk hr3.up ?_
      refine ⟨fun g hMg hLg => ?_⟩
      have hl3 : items2.length = ((ls.take j).flatMap TS.l).length + i := by rw [hI2, List.length_append, List.length_take]; omega
      refine GROW.use (toV := Tok.toV) (news := [ls[j].l[i]]) (hO2.newM hLg) Tok.size3 Tok.one rfl (ReadsL.one (x := ls[j].l[i]) (Mem.upd_self _ _ _)) (by decide) (by omega) fun A' c' L' hO' _ => ?_
      refine NEED.mk (by unfold inI64; omega) ?_
      refine NEED.mk ⟨rfl, rfl⟩ ?_
      rw [show items2.length + 1 = (items2 ++ [ls[j].l[i]]).length by simp]
      exact hag2 (items2 ++ [ls[j].l[i]], A', c', i + 1, _, L') ⟨hlt2, by dsimp only; rw [hI2, hs, List.append_assoc], hO'⟩ (by dsimp only; omega)
    · refine NEED.mk (by unfold inI64; omega) ?_
      refine NEED.mk ⟨rfl, rfl⟩ ?_
      refine hag (items2, B2, d2, j + 1, M2, L2) ⟨hlt, ?_, hO2⟩ (by dsimp only; omega)
      dsimp only
      rw [hI2, htf]
      congr 1
      exact List.take_of_length_le (by omega)
  · have : items = ls.flatMap TS.l := by rw [hI, List.take_of_length_le (by omega)]
    subst this
    exact ⟨B, d, rfl, hO⟩
theorem TOKS {M L : Mem} {ts : List TS} {e : TypeId} {n m : Nat} {k : Value → Mem → Mem → Prop} (hH : Has M ts) (sel : List TS) (hsel : ∀ t ∈ sel, t ∈ ts) (hB : (sel.flatMap TS.l).length ≤ 1099511627776)
    (hk : ∀ (t : TS) M', M.le M' → t.l = sel.flatMap TS.l → Has M' (t :: ts) → k (.slice t.A t.l.length t.c) M' L) (hn : n = sel.length := by rfl) (hm : m = sel.length := by rfl) (hs : sel.length ≤ 100 := by simp) :
    NEWM M L (.cells (sel.map TS.toV).toArray e (0, 0)) fun g M1 => CALL Tryd.prog 11 #[.slice (some ⟨g, 0, none⟩) n m] M1 L k := by
  subst hn hm
  refine ⟨fun g hM hL => ?_⟩
  have hle := Mem.upd_le (o := .cells (sel.map TS.toV).toArray e (0, 0)) hM
  have hrow : Row (M.upd g (.cells (sel.map TS.toV).toArray e (0, 0))) TS.toV 1 (some ⟨g, 0, none⟩) sel.length sel := Row.blk (n := g) (fun t => rfl) (by rw [flatV_ts]; exact Mem.upd_self _ _ _) (by unfold maxLen; omega)
  have hH' := hH.mono hle
  exact CALL.give hH' (rTokens_ok rfl hrow (fun t ht => hH' t (hsel t ht)) hB) fun t M' hM' ht hH2 => hk t M' (Mem.le_trans hle hM') ht hH2
theorem rSpoken_ok {s : ByteArray} {l : List Tok} {M L : Mem} (hs : s.size ≤ 1099511627776) (hl : spokenF s = l) : Makes Tryd.prog 12 #[.string s] M L l := by
  subst hl
  refine Makes.of (rSpoken_spec ?_)
  unfold vc_rSpoken
  have hsz : s.data.toList.length = s.size := by simp
  refine LOOP.gen (fun x : List Tok × Option Addr × Nat × Nat × Nat × Mem × Mem => ([.slice x.2.1 x.1.length x.2.2.1, .int .i64 (x.2.2.2.1 : Int), .int .i64 (x.2.2.2.2.1 : Int)], [], x.2.2.2.2.2.1, x.2.2.2.2.2.2))
    (fun x => Owns L x.2.2.2.2.2.1 x.2.2.2.2.2.2 Tok.toV 56 3 x.2.1 x.2.2.1 x.1 ∧ x.1.length ≤ x.2.2.2.2.1 ∧ ((x.2.2.2.2.1 ≤ s.size ∧ x.2.2.2.1 ≤ x.2.2.2.2.1 ∧ spokenF s = x.1 ++ spl ((s.data.toList.drop x.2.2.2.1).take (x.2.2.2.2.1 - x.2.2.2.1)) (s.data.toList.drop x.2.2.2.2.1)) ∨ (x.2.2.2.2.1 = s.size + 1 ∧ spokenF s = x.1)))
    (fun x => s.size + 1 - x.2.2.2.2.1) ([], none, 0, 0, 0, M, L) rfl ⟨.nil, by simp, .inl ⟨Nat.zero_le _, Nat.le_refl _, by simp [spokenF]⟩⟩ ?_
  rintro ⟨items, A, c, f, i, M1, L1⟩ again hM1 ⟨hO, hle, hI⟩ hag
  dsimp only at hM1 hO hle hI hag ⊢
  (repeat apply EX.in)
  refine NEED.mk ⟨rfl, rfl⟩ ?_
  refine IFF.mk (fun hb => ?_) (fun hb => ?_) <;> (try simp only [decide_eq_true_eq, decide_eq_false_iff_not, Bool.and_eq_true, Bool.or_eq_true, Bool.not_eq_true', Bool.not_eq_false', Bool.and_eq_false_iff, Bool.or_eq_false_iff, Bool.not_true, Bool.not_false, Int.not_lt, Int.not_le, Decidable.not_not, ne_eq] at hb)
  · have his : i ≤ s.size := by omega
    rcases hI with ⟨_, hf, hI⟩ | ⟨h1, _⟩
    · refine NEED.mk (fun h => by simp at h; omega) ?_
      rw [show Int.toNat (i : Int) = i from rfl, show Int.toNat (f : Int) = f from rfl]
      by_cases hmid : i < s.size ∧ byteAt s i ≠ 32
      · refine IFF.yes' (by simp; omega) ?_
        refine NEED.mk (by unfold inI64; omega) ?_
        refine NEED.mk ⟨rfl, rfl⟩ ?_
        refine hag (items, A, c, f, i + 1, M1, L1) ⟨hO, by dsimp only; omega, .inl ⟨by dsimp only; omega, by dsimp only; omega, ?_⟩⟩ (by dsimp only; omega)
        have hlt : i < s.data.toList.length := by omega
        have hbe : s.data.toList[i].toNat = byteAt s i := by unfold byteAt; rw [dif_pos hmid.1]; rfl
        dsimp only
        rw [hI, drop_step hlt, spl, if_pos (fun h => hmid.2 (by rw [← hbe, h]; rfl))]
        have e : (s.data.toList.drop f).take (i + 1 - f) = (s.data.toList.drop f).take (i - f) ++ [s.data.toList[i]] := by
          rw [show i + 1 - f = (i - f) + 1 by omega, take_step (by rw [List.length_drop]; omega)]
          congr 2
          rw [List.getElem_drop]; congr 1; omega
        rw [e]
      · have hcur : spokenF s = items ++ (if f < i then [word (s.extract f i)] else []) ++ (if i < s.size then spl [] (s.data.toList.drop (i + 1)) else []) := by
          have hne : (s.data.toList.drop f).take (i - f) = [] ↔ ¬ f < i := by
            rw [List.take_eq_nil_iff, List.drop_eq_nil_iff]; omega
          have hw : (⟨((s.data.toList.drop f).take (i - f)).toArray⟩ : ByteArray) = s.extract f i := by
            have : (s.extract f i).data.toList = (s.data.toList.drop f).take (i - f) := by simp [ByteArray.data_extract, List.extract_eq_take_drop]
            rw [← this, mk_toList]
          rw [hI, List.append_assoc]
          congr 1
          by_cases hl : i < s.size
          · have hlt : i < s.data.toList.length := by omega
            have hbe : s.data.toList[i].toNat = byteAt s i := by unfold byteAt; rw [dif_pos hl]; rfl
            have h32 : s.data.toList[i] = 32 := by
              have : byteAt s i = 32 := Classical.byContradiction fun h => hmid ⟨hl, h⟩
              rw [this] at hbe
              exact UInt8.toNat_inj.1 (by simpa using hbe)
            rw [drop_step hlt, spl, if_neg (by simp [h32]), hw, if_pos hl]
            by_cases hfi : f < i
            · rw [if_neg (fun h => hne.1 h hfi), if_pos hfi]
            · rw [if_pos (hne.2 hfi), if_neg hfi]
          · have hdn : s.data.toList.drop i = [] := List.drop_eq_nil_of_le (by omega)
            rw [hdn, spl, hw, if_neg hl, List.append_nil]
            by_cases hfi : f < i
            · rw [if_neg (fun h => hne.1 h hfi), if_pos hfi]
            · rw [if_pos (hne.2 hfi), if_neg hfi]
        refine IFF.no' (by simp; omega) ?_
        have next : ∀ items' A' c' M' L', M1.le M' → Owns L M' L' Tok.toV 56 3 A' c' items' → items' = items ++ (if f < i then [word (s.extract f i)] else []) → again [.slice A' items'.length c', .int .i64 ((i : Int) + 1), .int .i64 ((i : Int) + 1)] [] M' L' := by
          intro items' A' c' M' L' _ hO' he
          refine hag (items', A', c', i + 1, i + 1, M', L') ⟨hO', ?_, ?_⟩ (by dsimp only; omega)
          · dsimp only; rw [he]; split <;> simp <;> omega
          · dsimp only
            by_cases hl : i < s.size
            · refine .inl ⟨hl, Nat.le_refl _, ?_⟩
              rw [hcur, if_pos hl, he]; simp
            · refine .inr ⟨by omega, ?_⟩
              rw [hcur, if_neg hl, he]; simp
        refine IFF.mk (fun hb => ?_) (fun hb => ?_) <;> (try simp only [decide_eq_true_eq, decide_eq_false_iff_not, Bool.and_eq_true, Bool.or_eq_true, Bool.not_eq_true', Bool.not_eq_false', Bool.and_eq_false_iff, Bool.or_eq_false_iff, Bool.not_true, Bool.not_false, Int.not_lt, Int.not_le, Decidable.not_not, ne_eq] at hb)
        · have hfi : f < i := by omega
          refine NEED.mk ⟨by omega, by omega⟩ ?_
          refine CALL.pure (rSmallLetter_ok (c := byteAt s f) (byteAt_le s f)) ?_
          (repeat apply EX.in)
          refine NEED.mk rfl ?_
          have hb0 : byteAt (s.extract f i) 0 = byteAt s f := by
            have h1 : 0 < (s.extract f i).size := by simp [ByteArray.size_extract]; omega
            unfold byteAt
            rw [dif_pos h1, dif_pos (by omega)]
            congr 1
            simp [ByteArray.getElem_extract]
          have hword : word (s.extract f i) = ⟨if 97 ≤ byteAt s f ∧ byteAt s f ≤ 122 then 1 else 4, s.extract f i, 0⟩ := by rw [word, hb0]
          refine IFF.mk (fun hb => ?_) (fun hb => ?_) <;> (try simp only [decide_eq_true_eq, decide_eq_false_iff_not, Bool.and_eq_true, Bool.or_eq_true, Bool.not_eq_true', Bool.not_eq_false', Bool.and_eq_false_iff, Bool.or_eq_false_iff, Bool.not_true, Bool.not_false, Int.not_lt, Int.not_le, Decidable.not_not, ne_eq] at hb)
          · refine NEED.mk ⟨by omega, by omega, by omega⟩ ?_
            refine ⟨fun g hMg hLg => ?_⟩
            rw [if_pos hb] at hword
            refine GROW.use (toV := Tok.toV) (news := [⟨1, s.extract f i, 0⟩]) (hO.newM hLg) Tok.size3 Tok.one rfl (ReadsL.one (x := (⟨1, s.extract f i, 0⟩ : Tok)) (Mem.upd_self _ _ _)) (by decide) (by omega) fun A' c' L' hO' _ => ?_
            refine NEED.mk (by unfold inI64; omega) ?_
            refine NEED.mk (by unfold inI64; omega) ?_
            refine NEED.mk ⟨rfl, rfl⟩ ?_
            have := next _ A' c' _ L' (Mem.upd_le hMg) hO' (by rw [if_pos hfi, hword])
            simpa using this
          · refine NEED.mk ⟨by omega, by omega, by omega⟩ ?_
            refine ⟨fun g hMg hLg => ?_⟩
            rw [if_neg (by omega)] at hword
            refine GROW.use (toV := Tok.toV) (news := [⟨4, s.extract f i, 0⟩]) (hO.newM hLg) Tok.size3 Tok.one rfl (ReadsL.one (x := (⟨4, s.extract f i, 0⟩ : Tok)) (Mem.upd_self _ _ _)) (by decide) (by omega) fun A' c' L' hO' _ => ?_
            refine NEED.mk (by unfold inI64; omega) ?_
            refine NEED.mk (by unfold inI64; omega) ?_
            refine NEED.mk ⟨rfl, rfl⟩ ?_
            have := next _ A' c' _ L' (Mem.upd_le hMg) hO' (by rw [if_pos hfi, hword])
            simpa using this
        · refine NEED.mk (by unfold inI64; omega) ?_
          refine NEED.mk (by unfold inI64; omega) ?_
          refine NEED.mk ⟨rfl, rfl⟩ ?_
          exact next items A c M1 L1 (Mem.le_refl _) hO (by rw [if_neg (by omega)]; simp)
    · omega
  · rcases hI with ⟨h1, _⟩ | ⟨h1, h2⟩
    · omega
    · subst h2
      exact ⟨A, c, rfl, hO⟩
end Go.Proofs.YthaamalgeieijabDoor
