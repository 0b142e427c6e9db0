/- What a reading of a book shows of memory: the book's data, type by type. -/
import Derived.Test.YthaamalgeieijabDoorRa
import Derived.Test.YthaamalgeieijabDoorPg
set_option linter.unusedVariables false
set_option linter.unusedSimpArgs false
set_option maxRecDepth 100000
namespace Go.Proofs.YthaamalgeieijabDoor
open Go Go.RowKit

section
variable {H : Type} {enc : TypeId × Value → H} {W : World}
theorem opFld (n : Nat) : Opens enc Tryd.prog W n 41 Fld.toV fun _ => True := fun m hm cs x h => by
  have hl := trod_len (N := 2) (i := 0) (u := 9) (off := 0) (sz := 1) (by kernel_rfl) (by kernel_rfl) h
  obtain ⟨s, h0⟩ := fld_str (i := 0) (u := 9) (off := 0) (by kernel_rfl) (by kernel_rfl) h
  obtain ⟨k, h1⟩ := fld_int (i := 1) (u := 3) (off := 1) (by kernel_rfl) (by kernel_rfl) h
  exact ⟨⟨s, k⟩, piece h0 (piece h1 (piece_end hl)), trivial⟩
theorem opTyp (n : Nat) : Opens enc Tryd.prog W n 38 Typ.toV (Typ.Ok (memOf W)) := fun m hm cs x h => by
  have hl := trod_len (N := 2) (i := 0) (u := 9) (off := 0) (sz := 1) (by kernel_rfl) (by kernel_rfl) h
  obtain ⟨s, h0⟩ := fld_str (i := 0) (u := 9) (off := 0) (by kernel_rfl) (by kernel_rfl) h
  obtain ⟨A, xs, c, h1, hr, _⟩ := fld_row (i := 1) (u := 36) (off := 1) (by kernel_rfl) (by kernel_rfl) (by kernel_rfl) (opFld m) (by omega) h
  exact ⟨⟨s, A, xs, c⟩, piece h0 (piece h1 (piece_end hl)), ⟨hr⟩⟩
theorem opVl (n : Nat) : Opens enc Tryd.prog W n 63 Vl.toV fun _ => True := fun m hm cs x h => by
  have hl := trod_len (N := 3) (i := 0) (u := 3) (off := 0) (sz := 1) (by kernel_rfl) (by kernel_rfl) h
  obtain ⟨k, h0⟩ := fld_int (i := 0) (u := 3) (off := 0) (by kernel_rfl) (by kernel_rfl) h
  obtain ⟨j, h1⟩ := fld_int (i := 1) (u := 3) (off := 1) (by kernel_rfl) (by kernel_rfl) h
  obtain ⟨s, h2⟩ := fld_str (i := 2) (u := 9) (off := 2) (by kernel_rfl) (by kernel_rfl) h
  exact ⟨⟨k, j, s⟩, piece h0 (piece h1 (piece h2 (piece_end hl))), trivial⟩
theorem opOpd (n : Nat) : Opens enc Tryd.prog W n 65 Opd.toV fun _ => True := fun m hm cs x h => by
  have hl := trod_len (N := 6) (i := 0) (u := 3) (off := 0) (sz := 1) (by kernel_rfl) (by kernel_rfl) h
  obtain ⟨k, h0⟩ := fld_int (i := 0) (u := 3) (off := 0) (by kernel_rfl) (by kernel_rfl) h
  obtain ⟨v, h1, _⟩ := fld_st (i := 1) (u := 63) (off := 1) (sz := 3) (by kernel_rfl) (opVl m) (by omega) h
  obtain ⟨s, h2⟩ := fld_str (i := 2) (u := 9) (off := 4) (by kernel_rfl) (by kernel_rfl) h
  obtain ⟨f, h3⟩ := fld_str (i := 3) (u := 9) (off := 5) (by kernel_rfl) (by kernel_rfl) h
  exact ⟨⟨k, v, s, f⟩, piece h0 (piece h1 (piece h2 (piece h3 (piece_end hl)))), trivial⟩
theorem opCnd : ∀ n : Nat, Opens enc Tryd.prog W n 67 Cnd.toV (Cnd.Ok (memOf W))
  | 0 => fun m hm cs x h => by
    obtain rfl : m = 0 := by omega
    simp [DataW.trod] at h
  | n + 1 => fun m hm cs x h => by
    have hl := trod_len (N := 14) (i := 0) (u := 3) (off := 0) (sz := 1) (by kernel_rfl) (by kernel_rfl) h
    obtain ⟨k, h0⟩ := fld_int (i := 0) (u := 3) (off := 0) (by kernel_rfl) (by kernel_rfl) h
    obtain ⟨A, xs, c, h1, hr, hx⟩ := fld_row (i := 1) (u := 61) (off := 1) (by kernel_rfl) (by kernel_rfl) (by kernel_rfl) (opCnd n) (by omega) h
    obtain ⟨l, h2, _⟩ := fld_st (i := 2) (u := 65) (off := 2) (sz := 6) (by kernel_rfl) (opOpd m) (by omega) h
    obtain ⟨r, h3, _⟩ := fld_st (i := 3) (u := 65) (off := 8) (sz := 6) (by kernel_rfl) (opOpd m) (by omega) h
    exact ⟨.mk k A xs c l r, piece h0 (piece h1 (piece h2 (piece h3 (piece_end hl)))), .mk hr hx⟩
theorem opPat (n : Nat) : Opens enc Tryd.prog W n 69 Pat.toV (Pat.Ok (memOf W)) := fun m hm cs x h => by
  have hl := trod_len (N := 18) (i := 0) (u := 9) (off := 0) (sz := 1) (by kernel_rfl) (by kernel_rfl) h
  obtain ⟨v, h0⟩ := fld_str (i := 0) (u := 9) (off := 0) (by kernel_rfl) (by kernel_rfl) h
  obtain ⟨t, h1⟩ := fld_str (i := 1) (u := 9) (off := 1) (by kernel_rfl) (by kernel_rfl) h
  obtain ⟨w, h2, hw⟩ := fld_st (i := 2) (u := 67) (off := 2) (sz := 14) (by kernel_rfl) (opCnd m) (by omega) h
  obtain ⟨i, h3⟩ := fld_int (i := 3) (u := 3) (off := 16) (by kernel_rfl) (by kernel_rfl) h
  obtain ⟨k, h4⟩ := fld_int (i := 4) (u := 3) (off := 17) (by kernel_rfl) (by kernel_rfl) h
  exact ⟨⟨v, t, w, i, k⟩, piece h0 (piece h1 (piece h2 (piece h3 (piece h4 (piece_end hl))))), ⟨hw⟩⟩
theorem opMny (n : Nat) : Opens enc Tryd.prog W n 73 Mny.toV (fun m => m.pat.Ok (memOf W)) := fun m hm cs x h => by
  have hl := trod_len (N := 20) (i := 0) (u := 3) (off := 0) (sz := 1) (by kernel_rfl) (by kernel_rfl) h
  obtain ⟨v, h0⟩ := fld_int (i := 0) (u := 3) (off := 0) (by kernel_rfl) (by kernel_rfl) h
  obtain ⟨t, h1⟩ := fld_str (i := 1) (u := 9) (off := 1) (by kernel_rfl) (by kernel_rfl) h
  obtain ⟨w, h2, hw⟩ := fld_st (i := 2) (u := 69) (off := 2) (sz := 18) (by kernel_rfl) (opPat m) (by omega) h
  exact ⟨⟨v, t, w⟩, piece h0 (piece h1 (piece h2 (piece_end hl))), hw⟩
theorem opOpt (n : Nat) : Opens enc Tryd.prog W n 78 Opt.toV fun _ => True := fun m hm cs x h => by
  have hl := trod_len (N := 3) (i := 0) (u := 3) (off := 0) (sz := 1) (by kernel_rfl) (by kernel_rfl) h
  obtain ⟨k, h0⟩ := fld_int (i := 0) (u := 3) (off := 0) (by kernel_rfl) (by kernel_rfl) h
  obtain ⟨j, h1⟩ := fld_int (i := 1) (u := 3) (off := 1) (by kernel_rfl) (by kernel_rfl) h
  obtain ⟨i, h2⟩ := fld_int (i := 2) (u := 3) (off := 2) (by kernel_rfl) (by kernel_rfl) h
  exact ⟨⟨k, j, i⟩, piece h0 (piece h1 (piece h2 (piece_end hl))), trivial⟩
theorem opLnk (n : Nat) : Opens enc Tryd.prog W n 76 Lnk.toV (Lnk.Ok (memOf W)) := fun m hm cs x h => by
  have hl := trod_len (N := 3) (i := 0) (u := 9) (off := 0) (sz := 1) (by kernel_rfl) (by kernel_rfl) h
  obtain ⟨s, h0⟩ := fld_str (i := 0) (u := 9) (off := 0) (by kernel_rfl) (by kernel_rfl) h
  obtain ⟨A, xs, c, h1, hr, _⟩ := fld_row (i := 1) (u := 74) (off := 1) (by kernel_rfl) (by kernel_rfl) (by kernel_rfl) (opOpt m) (by omega) h
  obtain ⟨r, h2⟩ := fld_str (i := 2) (u := 9) (off := 2) (by kernel_rfl) (by kernel_rfl) h
  exact ⟨⟨s, A, xs, c, r⟩, piece h0 (piece h1 (piece h2 (piece_end hl))), ⟨hr⟩⟩
theorem opEmit (n : Nat) : Opens enc Tryd.prog W n 48 (fun e : ByteArray × Option Addr × List Opd × Nat => .agg #[.string e.1, .slice e.2.1 e.2.2.1.length e.2.2.2]) fun e => Row (memOf W) Opd.toV 6 e.2.1 e.2.2.2 e.2.2.1 := fun m hm cs x h => by
  have hl := trod_len (N := 2) (i := 0) (u := 9) (off := 0) (sz := 1) (by kernel_rfl) (by kernel_rfl) h
  obtain ⟨s, h0⟩ := fld_str (i := 0) (u := 9) (off := 0) (by kernel_rfl) (by kernel_rfl) h
  obtain ⟨A, xs, c, h1, hr, _⟩ := fld_row (i := 1) (u := 46) (off := 1) (by kernel_rfl) (by kernel_rfl) (by kernel_rfl) (opOpd m) (by omega) h
  exact ⟨⟨s, A, xs, c⟩, piece h0 (piece h1 (piece_end hl)), hr⟩
theorem opRul (n : Nat) : Opens enc Tryd.prog W n 50 Rul.toV (Rul.Ok (memOf W)) := fun m hm cs x h => by
  have hl := trod_len (N := 7) (i := 0) (u := 9) (off := 0) (sz := 1) (by kernel_rfl) (by kernel_rfl) h
  obtain ⟨s, h0⟩ := fld_str (i := 0) (u := 9) (off := 0) (by kernel_rfl) (by kernel_rfl) h
  obtain ⟨A1, x1, c1, h1, r1, k1⟩ := fld_row (i := 1) (u := 43) (off := 1) (by kernel_rfl) (by kernel_rfl) (by kernel_rfl) (opPat m) (by omega) h
  obtain ⟨A2, x2, c2, h2, r2, k2⟩ := fld_row (i := 2) (u := 43) (off := 2) (by kernel_rfl) (by kernel_rfl) (by kernel_rfl) (opPat m) (by omega) h
  obtain ⟨A3, x3, c3, h3, r3, k3⟩ := fld_row (i := 3) (u := 44) (off := 3) (by kernel_rfl) (by kernel_rfl) (by kernel_rfl) (opMny m) (by omega) h
  obtain ⟨A4, x4, c4, h4, r4, k4⟩ := fld_row (i := 4) (u := 45) (off := 4) (by kernel_rfl) (by kernel_rfl) (by kernel_rfl) (opLnk m) (by omega) h
  obtain ⟨e, h5, k5⟩ := fld_st (i := 5) (u := 48) (off := 5) (sz := 2) (by kernel_rfl) (opEmit m) (by omega) h
  exact ⟨⟨s, A1, x1, c1, A2, x2, c2, A3, x3, c3, A4, x4, c4, e.1, e.2.1, e.2.2.1, e.2.2.2⟩, piece h0 (piece h1 (piece h2 (piece h3 (piece h4 (piece h5 (piece_end hl)))))),
    ⟨r1, k1, r2, k2, r3, k3, r4, k4, k5⟩⟩
theorem opBok (n : Nat) : Opens enc Tryd.prog W n 25 Bok.toV (Bok.Ok (memOf W)) := fun m hm cs x h => by
  have hl := trod_len (N := 2) (i := 0) (u := 22) (off := 0) (sz := 1) (by kernel_rfl) (by kernel_rfl) h
  obtain ⟨A1, x1, c1, h1, r1, k1⟩ := fld_row (i := 0) (u := 22) (off := 0) (by kernel_rfl) (by kernel_rfl) (by kernel_rfl) (opTyp m) (by omega) h
  obtain ⟨A2, x2, c2, h2, r2, k2⟩ := fld_row (i := 1) (u := 23) (off := 1) (by kernel_rfl) (by kernel_rfl) (by kernel_rfl) (opRul m) (by omega) h
  exact ⟨⟨A1, x1, c1, A2, x2, c2⟩, piece h1 (piece h2 (piece_end hl)), ⟨r1, k1, r2, k2⟩⟩
/-- A book that comes in as an argument. -/
theorem open_book {r : Reach} {b0 : Nat} {v : Value} {d : DataW H} {p : List MemPlace} {t : TypeId} (ht : t = 25) (hv : Value.okWide Tryd.prog W r b0 t v) (h : DataW.Trod enc Tryd.prog W 0 (fun _ => true) true t v d p) : ∃ b : Bok, v = b.toV ∧ b.Ok (memOf W) := by
  subst ht
  obtain ⟨n, hn⟩ := h
  obtain ⟨b, hc, hb⟩ := opBok n n (Nat.le_refl _) _ _ hn
  obtain ⟨fs, hs⟩ := fldAt_struct (i := 0) (x := (22, 0, 1)) (show fldAt Tryd.prog 25 0 = _ by kernel_rfl)
  obtain ⟨cs, rfl, _⟩ := WideShapes.okWide_struct hs hv
  exact ⟨b, congrArg Value.agg (Array.toList_inj.1 hc), hb⟩
end
end Go.Proofs.YthaamalgeieijabDoor
