/-
The law ExchangePushes: both rounds.
-/
import Derived.Test.YtllmdbbhokaokaaqEe
set_option linter.unusedVariables false
set_option linter.unusedSimpArgs false
set_option maxRecDepth 100000
namespace Go.Proofs.Ytllmdbbhokaokaa
open Go Go.Ev
section
variable {N : Nat} {s : GSnap} {fr to_ : GAddr}
def small (L : List GMsg) : Prop := ∀ m ∈ L, m.Ops.length ≤ 16
theorem addOp_small {o k : Int} {x : GOp} {L : List GMsg} (h : small L) : small (addOp s fr to_ o k x L) ∧ (addOp s fr to_ o k x L).length ≤ L.length + 1 := by
  unfold addOp
  have h1 : small (L ++ [mk s fr to_ o k [x]]) := fun m hm => by
    rcases List.mem_append.1 hm with hm | hm
    · exact h m hm
    · simp at hm; subst hm; simp [mk]
  split
  · rename_i m hm
    split
    · rename_i hc
      refine ⟨fun y hy => ?_, by simp⟩
      rcases List.mem_append.1 hy with hy | hy
      · exact h y (List.dropLast_subset _ hy)
      · simp at hy; subst hy; simp; omega
    · exact ⟨h1, by simp⟩
  · exact ⟨h1, by simp⟩
theorem adds_small {o : Int} : ∀ (c : List GOp) (k : Int) (L : List GMsg), small L → small (adds s fr to_ o k c L) ∧ (adds s fr to_ o k c L).length ≤ L.length + c.length
  | [], k, L, h => ⟨h, Nat.le_refl _⟩
  | x :: r, k, L, h => by
    obtain ⟨h1, h2⟩ := addOp_small (s := s) (fr := fr) (to_ := to_) (o := o) (k := k) (x := x) h
    obtain ⟨h3, h4⟩ := adds_small r (k + 1) _ h1
    exact ⟨h3, by simp only [List.length_cons, adds]; omega⟩
theorem idl_small {K : Nat} (hk : ∀ o : Int, 0 ≤ o → o < 8 → (ko s o).length ≤ K) : ∀ (n : Nat) (o m : Int) (L : List GMsg), 0 ≤ o → o + n ≤ 8 → small L → small (idl s fr to_ n o m L) ∧ (idl s fr to_ n o m L).length ≤ L.length + n * K
  | 0, o, m, L, _, _, h => ⟨h, by simp [idl]⟩
  | n + 1, o, m, L, h0, h8, h => by
    have hko := hk o h0 (by omega)
    cases hs : skip s to_ o with
    | true =>
      rw [idl_skip hs]
      obtain ⟨h1, h2⟩ := idl_small hk n (o + 1) m L (by omega) (by omega) h
      exact ⟨h1, by rw [Nat.succ_mul]; omega⟩
    | false =>
      rw [idl_succ hs]
      have ht : (tk s o (kn s to_ o - stt s o).toNat m).length ≤ K := by
        refine Nat.le_trans ?_ hko
        unfold tk
        rw [List.length_take, List.length_drop]
        omega
      obtain ⟨h1, h2⟩ := adds_small (s := s) (fr := fr) (to_ := to_) (o := o) (tk s o (kn s to_ o - stt s o).toNat m) (kn s to_ o) L h
      obtain ⟨h3, h4⟩ := idl_small hk n (o + 1) (m - ((tk s o (kn s to_ o - stt s o).toNat m).length : Int)) _ (by omega) (by omega) h1
      exact ⟨h3, by rw [Nat.succ_mul]; omega⟩
theorem pushI_small (hk : ∀ o : Int, 0 ≤ o → o < 8 → (ko s o).length ≤ 1048576) (most : Int) : small (pushI s fr to_ most) ∧ (pushI s fr to_ most).length ≤ 8388608 := by
  unfold pushI
  have := idl_small (fr := fr) (to_ := to_) (K := 1048576) hk 8 0 most [] (Int.le_refl _) (by omega) (fun m hm => by cases hm)
  cases ((okA fr && okA to_) && okS to_.Group) with
  | true => exact ⟨this.1, by simpa using this.2⟩
  | false => exact ⟨fun m hm => (nomatch hm), by simp⟩
variable {ms : List (Option (List GOp))} {g : List GMsgH} {l : Nat} {R : List GMsg}
theorem St.get (h : St s fr to_ ms g l R) {n : Nat} (hn : n < R.length) : Fine s fr to_ ms (g.getD n default) ∧ R.getD n default = vm ms (g.getD n default) ∧ n < g.length := by
  have hl : g.length = R.length := by rw [← h.eq]; simp
  have hg : n < g.length := by omega
  refine ⟨h.well.fine _ (by rw [gd_get _ hg]; exact List.getElem_mem _), ?_, hg⟩
  rw [gd_get _ hn, gd_get _ hg]
  have := h.eq
  subst this
  simp
theorem vm_mk {y : GMsgH} (h : Fine s fr to_ ms y) : vm ms y = mk s fr to_ y.Origin y.Slot (pcon ms y.Ops.j) := by
  have := h.eq
  generalize y.Ops = q at *
  rw [this]
  rfl
theorem round_eq (hN : 1100000 ≤ N) (h : St s fr to_ ms g l R) (hsm : small R) (hR : R.length ≤ 8388608) {n : Nat} (hn : n < R.length) (t stop : Int) (b2 : Bool) (y1 : GSnap) (y2 y3 : GAddr) (y4 : GSnap) (y5 y6 : GAddr) (y7 : GSnap) (y8 y9 : GAddr) :
    Flaw16_ExchangePushes_97b N (R.getD n default) y1 y2 y3 y4 y5 y6 y7 y8 y9 stop b2 l t (n : Int) g ms =
      some (bif (t == 0) && ((n : Int) + 1 == stop) then (true, default, default, default, default, default, default, default, default, default, default, default, default, default, default, default, default, 3, stop, b2, l, t, (n : Int) + 1, g, ms)
        else (false, y1, y2, y3, y4, y5, y6, y7, y8, y9, stop, b2, l, t, (n : Int) + 1, g, ms, default, default, default, default, default, default, default, default)) := by
  obtain ⟨f1, f2, f3⟩ := h.get hn
  have hl := h.len
  subst hl
  have hlen : (pcon ms (g.getD n default).Ops.j).length ≤ 16 := by
    have := hsm (R.getD n default) (by rw [gd_get _ hn]; exact List.getElem_mem _)
    rwa [f2] at this
  unfold Flaw16_ExchangePushes_97b
  have e1 : decide (((g.length : Nat) : Int) ≤ (n : Int)) = false := decide_eq_false (by omega)
  have e2 : ibB (n : Int) ((g.length : Nat) : Int) = true := ibB_of (by omega) (by omega)
  have e3 : decide (n < g.length) = true := decide_eq_true f3
  have e4 := same_eq hN f1 (by have := f1.n; omega)
  rw [f2]
  simp only [e1, e2, e3, Int.toNat_natCast, Bool.not_true, Bool.not_false, Bool.or_self, Bool.or_true, cond_true]
  change (Fref04_SameMsg_c0d N _ (g.getD n default) ms).bind _ = _
  rw [e4, Option.bind_some, wrap64 (by omega) (by omega)]
  simp only [Bool.not_true, Bool.or_self, cond_false]
  cases (t == 0) && ((n : Int) + 1 == stop) <;> rfl
end
end Go.Proofs.Ytllmdbbhokaokaa
