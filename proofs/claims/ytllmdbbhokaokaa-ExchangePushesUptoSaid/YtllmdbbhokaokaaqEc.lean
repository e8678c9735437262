/-
ExchangePushes: the document's function.
-/
import Derived.Test.YtllmdbbhokaokaaqEb
set_option linter.unusedVariables false
set_option linter.unusedSimpArgs false
set_option maxRecDepth 100000
namespace Go.Proofs.Ytllmdbbhokaokaa
open Go Go.Ev
section
variable {N : Nat} {s : GSnap} {fr to_ : GAddr}
def okA (a : GAddr) : Bool := (((decide (0 ≤ a.Group) && decide (a.Group < 9)) && decide (0 ≤ a.Replica)) && decide (a.Replica < 5))
def okS (n : Int) : Bool := decide (0 ≤ n) && decide (n < 8)
def pushI (s : GSnap) (fr to_ : GAddr) (most : Int) : List GMsg := bif (okA fr && okA to_) && okS to_.Group then idl s fr to_ 8 0 most [] else []
def tk (s : GSnap) (o : Int) (e : Nat) (m : Int) : List GOp := ((ko s o).drop e).take m.toNat
theorem tk_cons {o : Int} {e : Nat} {m : Int} (h : e < (ko s o).length) (hm : 0 < m) : tk s o e m = (ko s o).getD e default :: tk s o (e + 1) (m - 1) := by
  unfold tk
  obtain ⟨q, hq⟩ : ∃ q, m.toNat = q + 1 := ⟨m.toNat - 1, by omega⟩
  rw [drop_cons default h, hq, List.take_succ_cons, show (m - 1).toNat = q by omega]
theorem tk_nil {o : Int} {e : Nat} {m : Int} (h : (ko s o).length ≤ e ∨ m ≤ 0) : tk s o e m = [] := by
  unfold tk
  rcases h with h | h
  · rw [List.drop_eq_nil_of_le h, List.take_nil]
  · rw [show m.toNat = 0 by omega, List.take_zero]
theorem idl_succ {n : Nat} {o m : Int} {L : List GMsg} (h : skip s to_ o = false) : idl s fr to_ (n + 1) o m L = idl s fr to_ n (o + 1) (m - ((tk s o (kn s to_ o - stt s o).toNat m).length : Int)) (adds s fr to_ o (kn s to_ o) (tk s o (kn s to_ o - stt s o).toNat m) L) := by
  rw [idl, h]; rfl
theorem idl_skip {n : Nat} {o m : Int} {L : List GMsg} (h : skip s to_ o = true) : idl s fr to_ (n + 1) o m L = idl s fr to_ n (o + 1) m L := by
  rw [idl, h]; rfl
theorem mayAddr_eq (a : GAddr) : Fref04_MayAddr N a = some (okA a) := rfl
theorem refsite_eq (n : Int) : Fref16_site N n = some (okS n) := rfl
theorem refPush_eq (hN : 1100000 ≤ N) (hk : ∀ o : Int, 0 ≤ o → o < 8 → (ko s o).length ≤ 1048576) {most : Int} (hm : -9223372036854775808 ≤ most ∧ most ≤ 9223372036854775807) :
    ∃ r, Fref16_Push_38e N s fr to_ most [] = some r ∧ St s fr to_ r.2.1 r.2.2 r.1 (pushI s fr to_ most) := by
  unfold Fref16_Push_38e pushI
  simp only [mayAddr_eq, refsite_eq, Option.bind_some]
  have w0 : St s fr to_ [] [] 0 [] := ⟨⟨by simp, by simp⟩, rfl, rfl⟩
  cases h1 : okA fr with
  | false => exact ⟨_, rfl, w0⟩
  | true =>
  cases h2 : okA to_ with
  | false => exact ⟨_, rfl, w0⟩
  | true =>
  cases h3 : okS to_.Group with
  | false => exact ⟨(0, [], []), by simp [h3], w0⟩
  | true =>
  have ht : 0 ≤ to_.Group ∧ to_.Group < 8 := by simpa [okS] using h3
  have hib : ibB to_.Group 8 = true := ibB_of ht.1 ht.2
  simp only [Bool.not_true, Bool.not_false, Bool.or_self, Bool.or_false, Bool.and_self, cond_true, cond_false, refsite_eq, Option.bind_some, h3, mayAddr_eq, h2]
  generalize hR : idl s fr to_ 8 0 most [] = R
  refine iter_post (fun s4 : Sref16_Push_38ex5 => 0 ≤ s4.o ∧ s4.o ≤ 8 ∧ (s4.l : Int) ≤ 1048576 * s4.o ∧ (-9223372036854775808 ≤ s4.most ∧ s4.most ≤ 9223372036854775807) ∧ ∃ L, St s fr to_ s4.ms s4.g4 s4.l L ∧ idl s fr to_ (8 - s4.o.toNat) s4.o s4.most L = R) (fun s4 => 8 - s4.o.toNat) _ ?_ N _
    ⟨Int.le_refl _, by simp, by simp, hm, [], w0, hR⟩ (by simp; omega)
  clear hR w0
  rintro ⟨mo, l, o, ms, g⟩ next ⟨o1, o2, hl, hmo, L, hS, hI⟩ hn
  simp only at o1 o2 hl hmo hS hI
  by_cases ho : o < 8
  · have e1 : decide (o < 8) = true := decide_eq_true ho
    have e2 : ibB o 8 = true := ibB_of o1 ho
    have hw : IntKind.i64.wrap (o + 1) = o + 1 := wrap64 (by omega) (by omega)
    have hkl := hk o o1 ho
    have ekl : vget s.Kept o.toNat default = ko s o := rfl
    have est : vget s.Starts o.toNat default = stt s o := rfl
    have ekn : vget (vget s.Known to_.Group.toNat default) o.toNat default = kn s to_ o := rfl
    have hsk : ((decide (kn s to_ o < stt s o) || decide (stt s o < 0)) || decide (1099511627776 < kn s to_ o)) = skip s to_ o := rfl
    have h8 : 8 - o.toNat = (8 - (o + 1).toNat) + 1 := by omega
    simp only [e1, e2, hib, cond_true, hw, est, ekl, ekn, hsk]
    cases hs : skip s to_ o with
    | true =>
      rw [h8, idl_skip hs] at hI
      exact hn _ ⟨by simp only; omega, by simp only; omega, by simp only; omega, hmo, L, hS, hI⟩ (by simp only; omega)
    | false =>
      rw [h8, idl_succ hs] at hI
      have hs' := hs
      simp only [skip, Bool.or_eq_false_iff, decide_eq_false_iff_not] at hs'
      obtain ⟨⟨c1, c2⟩, c3⟩ := hs'
      simp only [cond_false]
      generalize hd : (kn s to_ o - stt s o).toNat = d at hI
      have hkd : kn s to_ o = stt s o + (d : Int) := by omega
      refine iter_post (fun s6 : Sref16_Push_38ex11 => 0 ≤ s6.i ∧ s6.i ≤ ((ko s o).length : Int) ∧ (s6.l : Int) ≤ 1048576 * o + s6.i ∧ (-9223372036854775808 ≤ s6.most ∧ s6.most ≤ 9223372036854775807) ∧
        ∃ L, St s fr to_ s6.ms s6.g5 s6.l L ∧ idl s fr to_ (8 - (o + 1).toNat) (o + 1) (s6.most - ((tk s o (max s6.i.toNat d) s6.most).length : Int)) (adds s fr to_ o (stt s o + ((max s6.i.toNat d : Nat) : Int)) (tk s o (max s6.i.toNat d) s6.most) L) = R) (fun s6 => (ko s o).length - s6.i.toNat) _ ?_ N _
        ⟨Int.le_refl _, by simp, by simp only; omega, hmo, L, hS, ?_⟩ (by simp; omega)
      · clear hI hS L hl
        rintro ⟨mo, l, i, ms, g⟩ nx ⟨i1, i2, hl, hmo, L, hS, hI⟩ hnx
        simp only at i1 i2 hl hmo hS hI
        have hi8 : i ≤ 1048576 := by omega
        by_cases hc : i < ((ko s o).length : Int) ∧ 0 < mo
        · have q1 : decide (i < ((ko s o).length : Int)) = true := decide_eq_true hc.1
          have q2 : decide (0 < mo) = true := decide_eq_true hc.2
          have q3 : IntKind.i64.wrap (stt s o + i) = stt s o + i := wrap64 (by omega) (by omega)
          have q4 : IntKind.i64.wrap (i + 1) = i + 1 := wrap64 (by omega) (by omega)
          have q5 : IntKind.i64.wrap (mo - 1) = mo - 1 := wrap64 (by omega) (by omega)
          have q6 : ibB i ((ko s o).length : Int) = true := ibB_of i1 hc.1
          have hi1 : (i + 1).toNat = i.toNat + 1 := by omega
          simp only [q1, q2, q3, q4, q5, q6, e2, Bool.and_self, cond_true]
          by_cases hlt : stt s o + i < kn s to_ o
          · rw [decide_eq_true hlt]
            simp only [cond_true]
            refine hnx _ ⟨by simp only; omega, by simp only; omega, by simp only; omega, hmo, L, hS, ?_⟩ (by simp only; omega)
            simp only [hi1]
            rw [show max (i.toNat + 1) d = max i.toNat d by omega]
            exact hI
          · rw [decide_eq_false hlt]
            simp only [cond_false]
            have hmx : max i.toNat d = i.toNat := by omega
            rw [hmx, tk_cons (by omega) hc.2, adds] at hI
            have hx : (ko s o).getD i.toNat default = lget (ko s o) i default := rfl
            rw [hx] at hI
            generalize hxx : lget (ko s o) i default = x at hI
            rw [List.length_cons, show mo - (((tk s o (i.toNat + 1) (mo - 1)).length + 1 : Nat) : Int) = mo - 1 - ((tk s o (i.toNat + 1) (mo - 1)).length : Int) by omega, show stt s o + ((i.toNat : Nat) : Int) + 1 = stt s o + ((i.toNat + 1 : Nat) : Int) by omega] at hI
            have hlen := hS.len
            subst hlen
            have fin : ∀ {ms' : List (Option (List GOp))} {g' : List GMsgH} {l' : Nat}, St s fr to_ ms' g' l' (addOp s fr to_ o (stt s o + ((i.toNat : Nat) : Int)) x L) → (l' : Int) ≤ 1048576 * o + (i + 1) → ∃ r, nx ⟨mo - 1, l', i + 1, ms', g'⟩ = some r ∧ St s fr to_ r.2.1 r.2.2 r.1 R := fun {ms' g' l'} h1 h2 =>
              hnx _ ⟨by simp only; omega, by simp only; omega, h2, by simp only; omega, _, h1, by
                simp only [hi1]
                rw [show max (i.toNat + 1) d = i.toNat + 1 by omega]
                exact hI⟩ (by simp only; omega)
            have w1 : IntKind.i64.wrap (((g.length : Nat) : Int) - 1) = (g.length : Int) - 1 := wrap64 (by omega) (by omega)
            have w2 : IntKind.i64.wrap ((g.length : Int) - 1 + 1) = (g.length : Int) := by rw [wrap64 (by omega) (by omega)]; omega
            have b1 : lenB (g.length + 1) 952 = true := lenB_of (by omega)
            have b2 : ibB ((g.length : Nat) : Int) ((g.length + 1 : Nat) : Int) = true := ibB_of (by omega) (by omega)
            have b3 : decide (g.length < g.length + 1) = true := decide_eq_true (by omega)
            have hi' : stt s o + i = stt s o + ((i.toNat : Nat) : Int) := by omega
            simp only [w1, w2, List.length_singleton, b1, b2, b3, Nat.ble_self_eq_true, Bool.and_self, List.take_length, Int.toNat_natCast, getD_snoc, set_snoc, List.length_append]
            rw [hi']
            rcases List.eq_nil_or_concat g with rfl | ⟨g0, z, hgz⟩
            · have hL : L = [] := by have := hS.eq; simpa using this.symm
              have := fin (hS.shut (o := o) (k := stt s o + ((i.toNat : Nat) : Int)) (x := x) (by rw [hL]; intro m hm; cases hm)) (by simp; omega)
              have e3 : decide ((((([] : List GMsgH).length : Nat) : Int)) - 1 < 0) = true := rfl
              simp only [e3, Bool.not_true, Bool.not_false, Bool.true_or, cond_true, cond_false]
              exact this
            · rw [List.concat_eq_append] at hgz
              subst hgz
              have w3 : (((g0 ++ [z]).length : Nat) : Int) - 1 = (g0.length : Int) := by simp
              have e3 : decide ((g0.length : Int) < 0) = false := decide_eq_false (by omega)
              have e4 : ibB (g0.length : Int) (((g0 ++ [z]).length : Nat) : Int) = true := ibB_of (by omega) (by simp; omega)
              have e5 : decide (g0.length < (g0 ++ [z]).length) = true := decide_eq_true (by simp)
              have hz := hS.well.fine z (by simp)
              have hLz : L.getLast? = some (vm ms z) := by rw [← hS.eq]; simp
              simp only [w3, Int.toNat_natCast, getD_snoc, set_snoc, e3, e4, e5, hz.has, Bool.not_true, Bool.not_false, Bool.true_or, Bool.or_true, Bool.false_or, cond_true, cond_false]
              have shut : Shut o L → ∃ r, nx ⟨mo - 1, (g0 ++ [z]).length + 1, i + 1, pset ms 0 none ++ [some [x]], (g0 ++ [z]) ++ [mkH s fr to_ o (stt s o + ((i.toNat : Nat) : Int)) ⟨ms.length + 1, 0, 1, 1, true⟩]⟩ = some r ∧ St s fr to_ r.2.1 r.2.2 r.1 R := fun h =>
                fin (hS.shut h) (by omega)
              by_cases hzo : z.Origin = o
              · have f1 : (z.Origin == o) = true := by simpa using hzo
                simp only [f1, Bool.not_true, Bool.not_false, cond_true, cond_false, Bool.false_or]
                by_cases h16 : z.Ops.n < 16
                · have f2 : decide ((16 : Int) ≤ ((z.Ops.n : Nat) : Int)) = false := decide_eq_false (by omega)
                  have f3 : Nat.beq z.Ops.o 0 = true := by rw [hz.o]; rfl
                  have f4 : lenB (z.Ops.n + 1) 88 = true := lenB_of (by omega)
                  have f5 : Nat.ble z.Ops.n (pcon ms z.Ops.j).length = true := by rw [hz.n]; exact Nat.ble_self_eq_true _
                  simp only [f2, cond_false, f3, pset_len, show ∀ y : GOp, (List.take 1 (List.drop 0 [y])).length = 1 from fun _ => rfl, f4, f5, Bool.and_self, Bool.or_true, cond_true]
                  exact fin (hS.open_ hzo h16) (by omega)
                · have f2 : decide ((16 : Int) ≤ ((z.Ops.n : Nat) : Int)) = true := decide_eq_true (by omega)
                  simp only [f2, cond_true]
                  exact shut fun m hm => by
                    rw [hLz] at hm; cases hm
                    rintro ⟨_, h⟩
                    have : (pcon ms z.Ops.j).length < 16 := h
                    rw [hz.n] at this; omega
              · have f1 : (z.Origin == o) = false := by simpa using hzo
                simp only [f1, Bool.not_true, Bool.not_false, cond_true, cond_false]
                exact shut fun m hm => by
                  rw [hLz] at hm; cases hm
                  rintro ⟨h, _⟩
                  exact hzo h
        · have q1 : (decide (i < ((ko s o).length : Int)) && decide (0 < mo)) = false := by
            rw [Bool.and_eq_false_iff]; simp only [decide_eq_false_iff_not]; omega
          simp only [e2, q1, cond_true, cond_false]
          rw [tk_nil (by omega)] at hI
          refine hn _ ⟨by simp only; omega, by simp only; omega, by simp only; omega, hmo, L, hS, ?_⟩ (by simp only; omega)
          simpa [adds] using hI
      · simp only [show max (0 : Int).toNat d = d by simp]
        rw [← hkd]
        exact hI
  · have e1 : decide (o < 8) = false := decide_eq_false ho
    simp only [e1, cond_false]
    refine ⟨_, rfl, ?_⟩
    rw [show 8 - o.toNat = 0 by omega, idl] at hI
    rw [← hI]; exact hS
end
end Go.Proofs.Ytllmdbbhokaokaa
