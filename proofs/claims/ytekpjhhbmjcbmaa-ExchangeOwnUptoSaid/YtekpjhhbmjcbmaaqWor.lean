/-
Plain laws of another seat, turned to this one by wip/tools/ren2.py.
-/
import Derived.Test.YtekpjhhbmjcbmaaqFo
import Derived.Test.YtekpjhhbmjcbmaaqRd
import Derived.Test.YtekpjhhbmjcbmaaqWop
import Derived.Laws.BitsAllLaws
set_option linter.unusedVariables false
set_option linter.unusedSimpArgs false
namespace Go.Proofs.Ytekpjhhbmjcbmaa
open Go Go.Ev
def byteR (b : Int) : Prop := 0 ≤ b ∧ b ≤ 255
def vint (u : Nat) : List Int := if h : u < 128 then [(u : Int)] else ((u % 128 + 128 : Nat) : Int) :: vint (u / 128)
  termination_by u
  decreasing_by omega
theorem vint_lt {u : Nat} (h : u < 128) : vint u = [(u : Int)] := by rw [vint, dif_pos h]
theorem vint_ge {u : Nat} (h : 128 ≤ u) : vint u = ((u % 128 + 128 : Nat) : Int) :: vint (u / 128) := by rw [vint, dif_neg (by omega)]
theorem vint_byte : ∀ (k u : Nat), u < 128 ^ (k + 1) → ∀ b ∈ vint u, byteR b
  | k, u, h, b, hb => by
    by_cases hu : u < 128
    · rw [vint_lt hu] at hb; simp at hb; subst hb; exact ⟨by omega, by omega⟩
    · rw [vint_ge (by omega)] at hb
      rcases List.mem_cons.1 hb with rfl | hb
      · exact ⟨by omega, by omega⟩
      · cases k with
        | zero => simp at h; omega
        | succ k =>
          have : u / 128 < 128 ^ (k + 1) := by rw [Nat.div_lt_iff_lt_mul (by decide)]; rw [← Nat.pow_succ]; exact h
          exact vint_byte k _ this b hb
def zig (n : Int) : Nat := if n < 0 then (-2 * n - 1).toNat else (2 * n).toNat
def R64 (n : Int) : Prop := -9223372036854775808 ≤ n ∧ n ≤ 9223372036854775807
theorem zig_lt {n : Int} (h : R64 n) : zig n < 18446744073709551616 := by have h1 := h.1; have h2 := h.2; unfold zig; split <;> omega
theorem F43_eq {N : Nat} {l : List Int} (h : l.length ≤ 70368744177664) : Fslices_Clone_byte N l = some l := by
  unfold Fslices_Clone_byte Fslices_Clone_byte_c35
  rw [lenB_of (by omega)]
  rfl
section
variable {N : Nat} {b : List Int}
end
theorem bytesI_strI {l : List Int} (h : ∀ x ∈ l, byteR x) : bytesI (strI l) = l := by
  induction l with
  | nil => rfl
  | cons b l ih =>
    have hb := h b (by simp)
    have := hb.1; have := hb.2
    have e : ((UInt8.ofNat b.toNat).toNat : Int) = b := by
      rw [UInt8.toNat_ofNat']
      omega
    have ih' := ih fun x hx => h x (by simp [hx])
    simp only [bytesI, strI, List.map_cons, List.map_map] at ih' ⊢
    rw [ih', e]
section
variable {N : Nat} {w : List Int}
end
def put1 (s : Int × List Int) (x : List Int) : Int × List Int := if s.2.length + x.length ≤ 1048576 then (s.1, s.2 ++ x) else (if s.1 = 0 then 3 else s.1, s.2)
def wr (e : Int) (w : List Int) (cs : List (List Int)) : Int × Bool × List Int := ((cs.foldl put1 (e, w)).1, true, (cs.foldl put1 (e, w)).2)
def pI (n : Int) : List Int := vint (zig n)
def pB (l : List Int) : List Int := vint (zig (l.length : Int)) ++ l
def pT (s : List UInt8) : List Int := pB (bytesI s)
theorem bytesI_len (s : List UInt8) : (bytesI s).length = s.length := by simp [bytesI]
def MayOp (o : GOp) : Prop := (0 ≤ o.Stamp.Time ∧ o.Stamp.Time ≤ 1099511627776) ∧ (0 ≤ o.Stamp.Site ∧ o.Stamp.Site < 8) ∧ (1 ≤ o.Kind ∧ o.Kind ≤ 3) ∧ (0 ≤ o.Node ∧ o.Node ≤ 1125899906842624) ∧ (0 ≤ o.Parent ∧ o.Parent ≤ 1125899906842624) ∧
  o.Name.length ≤ 255 ∧ o.Key.length ≤ 255 ∧ o.Value.length ≤ 255
instance (o : GOp) : Decidable (MayOp o) := by unfold MayOp; infer_instance
def opC (o : GOp) : List (List Int) := [o.Stamp.Time].map pI ++ [o.Stamp.Site, o.Kind].map pI ++ [o.Node, o.Parent].map pI ++ [o.Name, o.Key, o.Value].map pT
section
variable {N : Nat}
theorem count1 (hN : 5 ≤ N) (a : Int) : Frecord_count N [a] = some (decide (0 ≤ a ∧ a ≤ 1099511627776)) := by
  obtain ⟨k, rfl⟩ : ∃ k, N = k + 5 := ⟨N - 5, by omega⟩
  have : Frecord_count (k + 5) [a] = (bif (decide (a < 0)) || (decide (1099511627776 < a)) then some false else some true) := by kernel_rfl
  rw [this]
  by_cases h1 : a < 0 <;> by_cases h2 : 1099511627776 < a <;> simp [h1, h2] <;> omega
theorem site1 (hN : 5 ≤ N) (a : Int) : Frecord_site N [a] = some (decide (0 ≤ a ∧ a < 8)) := by
  obtain ⟨k, rfl⟩ : ∃ k, N = k + 5 := ⟨N - 5, by omega⟩
  have : Frecord_site (k + 5) [a] = (bif (decide (a < 0)) || (decide (8 ≤ a)) then some false else some true) := by kernel_rfl
  rw [this]
  by_cases h1 : a < 0 <;> by_cases h2 : 8 ≤ a <;> simp [h1, h2] <;> omega
theorem node2 (hN : 5 ≤ N) (a b : Int) : Frecord_node N [a, b] = some (decide ((0 ≤ a ∧ a ≤ 1125899906842624) ∧ (0 ≤ b ∧ b ≤ 1125899906842624))) := by
  obtain ⟨k, rfl⟩ : ∃ k, N = k + 5 := ⟨N - 5, by omega⟩
  have : Frecord_node (k + 5) [a, b] = (bif (decide (a < 0)) || (decide (1125899906842624 < a)) then some false else bif (decide (b < 0)) || (decide (1125899906842624 < b)) then some false else some true) := by kernel_rfl
  rw [this]
  by_cases h1 : a < 0 <;> by_cases h2 : 1125899906842624 < a <;> by_cases h3 : b < 0 <;> by_cases h4 : 1125899906842624 < b <;> simp [h1, h2, h3, h4] <;> omega
theorem text3 (hN : 6 ≤ N) (a b c : List UInt8) : Frecord_text N [a, b, c] = some (decide (a.length ≤ 255 ∧ b.length ≤ 255 ∧ c.length ≤ 255)) := by
  obtain ⟨k, rfl⟩ : ∃ k, N = k + 6 := ⟨N - 6, by omega⟩
  have : Frecord_text (k + 6) [a, b, c] = (bif decide (255 < (a.length : Int)) then some false else bif decide (255 < (b.length : Int)) then some false else bif decide (255 < (c.length : Int)) then some false else some true) := by kernel_rfl
  rw [this]
  by_cases h1 : 255 < (a.length : Int) <;> by_cases h2 : 255 < (b.length : Int) <;> by_cases h3 : 255 < (c.length : Int) <;> simp [h1, h2, h3] <;> omega
theorem mayOp_eq (hN : 10 ≤ N) (o : GOp) : Frecord_mayOp N o = some (decide (MayOp o)) := by
  unfold Frecord_mayOp
  simp only [count1 (N := N) (by omega), site1 (N := N) (by omega), node2 (N := N) (by omega), text3 (N := N) (by omega), Option.bind_some]
  unfold MayOp
  by_cases h1 : (0 ≤ o.Stamp.Time ∧ o.Stamp.Time ≤ 1099511627776) <;> by_cases h2 : (0 ≤ o.Stamp.Site ∧ o.Stamp.Site < 8) <;> by_cases h3 : 1 ≤ o.Kind <;> by_cases h4 : o.Kind ≤ 3 <;>
    by_cases h5 : ((0 ≤ o.Node ∧ o.Node ≤ 1125899906842624) ∧ (0 ≤ o.Parent ∧ o.Parent ≤ 1125899906842624)) <;> simp [h1, h2, h3, h4, h5] <;> omega
end
def cnt (n : Int) : Prop := 0 ≤ n ∧ n ≤ 1099511627776
instance (n : Int) : Decidable (cnt n) := by unfold cnt; infer_instance
def sit (n : Int) : Prop := 0 ≤ n ∧ n < 8
instance (n : Int) : Decidable (sit n) := by unfold sit; infer_instance
def MayVec (v : Vector Int 8) : Prop := ∀ n ∈ v.toList, cnt n
instance (v : Vector Int 8) : Decidable (MayVec v) := by unfold MayVec; infer_instance
def epOk (e : GEpoch) (j : Nat) : Prop := (0 ≤ vget e.States j default ∧ vget e.States j default ≤ 3) ∧ (-1 ≤ vget e.Sponsor j default ∧ vget e.Sponsor j default < 8)
instance (e : GEpoch) (j : Nat) : Decidable (epOk e j) := by unfold epOk; infer_instance
def MayEp (e : GEpoch) : Prop := cnt e.Number ∧ MayVec e.Seals ∧ ∀ j, j < 8 → epOk e j
def MayPt (p : GPart) : Prop := cnt p.Snap ∧ (1 ≤ p.Many ∧ p.Many ≤ 4096) ∧ (0 ≤ p.Index ∧ p.Index < p.Many) ∧ p.Data.length ≤ 16384
instance (p : GPart) : Decidable (MayPt p) := by unfold MayPt; infer_instance
def MayOps (l : List GOp) : Prop := 1 ≤ l.length ∧ l.length ≤ 4096 ∧ ∀ o ∈ l, MayOp o
instance (l : List GOp) : Decidable (MayOps l) := by unfold MayOps; infer_instance
theorem bif_some {α : Type} (c : Bool) (x y : α) : (bif c then some x else some y) = some (bif c then x else y) := by cases c <;> rfl
theorem and_bif (c x y : Bool) : (c && (bif c then x else y)) = (c && x) := by cases c <;> rfl
def opq (a b : GOp) : Bool := (((a.Stamp.Time == b.Stamp.Time) && (a.Stamp.Site == b.Stamp.Site)) && ((a.Kind == b.Kind) && ((a.Node == b.Node) && ((a.Parent == b.Parent) && ((a.Name == b.Name) && ((a.Key == b.Key) && (a.Value == b.Value)))))))
theorem opq_iff (a b : GOp) : opq a b = true ↔ a = b := by
  obtain ⟨⟨a1, a2⟩, a3, a4, a5, a6, a7, a8⟩ := a
  obtain ⟨⟨b1, b2⟩, b3, b4, b5, b6, b7, b8⟩ := b
  simp [opq, and_assoc]
def opsB (a b : List GOp) : Bool := ((a.length : Int) == (b.length : Int)) && ((a.zip b).all fun p => opq p.1 p.2)
theorem opsB_iff (a b : List GOp) : opsB a b = true ↔ a = b := by
  unfold opsB
  by_cases h : a.length = b.length
  · simp only [h, beq_self_eq_true, Bool.true_and]
    exact zip_all_iff opq_iff a b h
  · have : ((a.length : Int) == (b.length : Int)) = false := by simp; omega
    simp only [this, Bool.false_and, Bool.false_eq_true, false_iff]
    exact fun e => h (by rw [e])
section
variable {N : Nat}
theorem equalOps_eq {a b : List GOp} (hN : a.length < N) (ha : a.length ≤ 9223372036854775807) : Fslices_Equal_Op N a b = some (opsB a b) := by
  unfold Fslices_Equal_Op opsB
  by_cases hl : a.length = b.length
  · simp only [hl, beq_self_eq_true, Bool.not_true, cond_false, Bool.true_and]
    refine iter_run (fun q : Sslices_Equal_Opx4 => 0 ≤ q.t13 ∧ q.t13 ≤ (a.length : Int) ∧ (((a.drop q.t13.toNat).zip (b.drop q.t13.toNat)).all fun p => opq p.1 p.2) = ((a.zip b).all fun p => opq p.1 p.2)) (fun q => ((a.length : Int) - q.t13).toNat) ?_ N _ ⟨by simp, by simp, by simp⟩ (by simp; omega)
    rintro ⟨i⟩ nx ⟨g0, g1, hq⟩ ih
    simp only at g0 g1 hq ih ⊢
    by_cases hi : i < b.length
    · have hi' : i < a.length := by omega
      rw [lget_drop (default : GOp) g0 hi, lget_drop (default : GOp) g0 hi', List.zip_cons_cons, List.all_cons] at hq
      simp only [decide_eq_true hi, ibB_of g0 hi, cond_true]
      change (bif !(opq (lget a i default) (lget b i default)) then _ else _) = _
      cases ho : opq (lget a i default) (lget b i default) with
      | true =>
        rw [ho, Bool.true_and] at hq
        simp only [Bool.not_true, cond_false]
        rw [wrap64 (by omega) (by omega)]
        exact ih ⟨i + 1⟩ ⟨by simp; omega, by simp; omega, hq⟩ (by simp; omega)
      | false => rw [ho, Bool.false_and] at hq; rw [← hq]; rfl
    · have : decide (i < (b.length : Int)) = false := by simpa using hi
      simp only [this, cond_false]
      rw [List.drop_eq_nil_of_le (by omega)] at hq
      rw [← hq]; rfl
  · have : ((a.length : Int) == (b.length : Int)) = false := by simp; omega
    simp only [this, Bool.not_false, cond_true, Bool.false_and]
theorem refOps_eq {a b : List GOp} (hN : a.length < N) (ha : a.length ≤ 9223372036854775807) : Fref04_sameOps N a b = some (opsB a b) := by
  unfold Fref04_sameOps opsB
  by_cases hl : a.length = b.length
  · simp only [hl, beq_self_eq_true, Bool.not_true, cond_false, Bool.true_and]
    refine iter_run (fun q : Sref04_sameOpsx4 => 0 ≤ q.i ∧ q.i ≤ (a.length : Int) ∧ (((a.drop q.i.toNat).zip (b.drop q.i.toNat)).all fun p => opq p.1 p.2) = ((a.zip b).all fun p => opq p.1 p.2)) (fun q => ((a.length : Int) - q.i).toNat) ?_ N _ ⟨by simp, by simp, by simp⟩ (by simp; omega)
    rintro ⟨i⟩ nx ⟨g0, g1, hq⟩ ih
    simp only at g0 g1 hq ih ⊢
    by_cases hi : i < b.length
    · have hi' : i < a.length := by omega
      rw [lget_drop (default : GOp) g0 hi, lget_drop (default : GOp) g0 hi', List.zip_cons_cons, List.all_cons] at hq
      simp only [decide_eq_true hi, ibB_of g0 hi, cond_true]
      change (bif !(opq (lget a i default) (lget b i default)) then _ else _) = _
      cases ho : opq (lget a i default) (lget b i default) with
      | true =>
        rw [ho, Bool.true_and] at hq
        simp only [Bool.not_true, cond_false]
        rw [wrap64 (by omega) (by omega)]
        exact ih ⟨i + 1⟩ ⟨by simp; omega, by simp; omega, hq⟩ (by simp; omega)
      | false => rw [ho, Bool.false_and] at hq; rw [← hq]; rfl
    · have : decide (i < (b.length : Int)) = false := by simpa using hi
      simp only [this, cond_false]
      rw [List.drop_eq_nil_of_le (by omega)] at hq
      rw [← hq]; rfl
  · have : ((a.length : Int) == (b.length : Int)) = false := by simp; omega
    simp only [this, Bool.not_false, cond_true, Bool.false_and]
def epq (a b : GEpoch) : Bool := ((a.Number == b.Number) && ((vbeq beq3 a.States b.States) && ((vbeq beq2 a.Seals b.Seals) && (vbeq beq3 a.Sponsor b.Sponsor))))
theorem epq_iff (a b : GEpoch) : epq a b = true ↔ a = b := by
  obtain ⟨a1, a2, a3, a4⟩ := a
  obtain ⟨b1, b2, b3, b4⟩ := b
  simp only [epq, Bool.and_eq_true, beq_iff_eq, vbeq_iff beq2_iff, vbeq_iff beq3_iff, GEpoch.mk.injEq]
def byt (l : List Int) : Prop := ∀ x ∈ l, byteR x
def ptq (a b : GPart) : Bool := ((((a.Snap == b.Snap) && (a.Index == b.Index)) && (a.Many == b.Many)) && ((strI a.Data) == (strI b.Data)))
theorem strI_inj {a b : List Int} (ha : byt a) (hb : byt b) : strI a = strI b ↔ a = b :=
  ⟨fun h => by rw [← bytesI_strI ha, ← bytesI_strI hb, h], fun h => by rw [h]⟩
theorem ptq_iff {a b : GPart} (ha : byt a.Data) (hb : byt b.Data) : ptq a b = true ↔ a = b := by
  obtain ⟨a1, a2, a3, a4⟩ := a
  obtain ⟨b1, b2, b3, b4⟩ := b
  simp only [ptq, Bool.and_eq_true, beq_iff_eq, strI_inj ha hb, GPart.mk.injEq, and_assoc]
def sameE (a b : GEntry) : Bool :=
  ((((((((((((((a.Kind == b.Kind) && (a.Session == b.Session)) && (a.Request == b.Request)) && opq a.Op b.Op) && (a.Origin == b.Origin)) && (a.Seq == b.Seq)) && opsB a.Ops b.Ops) && epq a.Epoch b.Epoch) && (a.From == b.From)) && (vbeq beq2 a.Vector_ b.Vector_)) && (a.Clock == b.Clock)) && ptq a.Part b.Part) && (a.Site == b.Site)) && (a.Sponsor == b.Sponsor)) && (a.Length == b.Length)
theorem sameE_iff {a b : GEntry} (ha : byt a.Part.Data) (hb : byt b.Part.Data) : sameE a b = true ↔ a = b := by
  obtain ⟨a1, a2, a3, a4, a5, a6, a7, a8, a9, a10, a11, a12, a13, a14, a15⟩ := a
  obtain ⟨b1, b2, b3, b4, b5, b6, b7, b8, b9, b10, b11, b12, b13, b14, b15⟩ := b
  simp only [sameE, Bool.and_eq_true, beq_iff_eq, opq_iff, opsB_iff, epq_iff, vbeq_iff beq2_iff, ptq_iff (a := a12) (b := b12) ha hb, GEntry.mk.injEq, and_assoc]
theorem sameEntry_eq {a b : GEntry} (hN : a.Ops.length < N) (ha : a.Ops.length ≤ 9223372036854775807) : Frecord_SameEntry N a b = some (sameE a b) := by
  unfold Frecord_SameEntry Frecord_samePart
  rw [equalOps_eq hN ha]
  simp only [bif_some, Option.bind_some, and_bif]
  rfl
theorem refSameEntry_eq {a b : GEntry} (hN : a.Ops.length < N) (ha : a.Ops.length ≤ 9223372036854775807) : Fref04_SameEntry N a b = some (sameE a b) := by
  unfold Fref04_SameEntry Fref04_SamePart
  rw [refOps_eq hN ha]
  simp only [bif_some, Option.bind_some, and_bif]
  rfl
end
theorem bdec {b : Bool} {P : Prop} [inst : Decidable P] (h : b = true ↔ P) : b = decide P := by
  by_cases hp : P
  · rw [decide_eq_true hp]; exact h.2 hp
  · rw [decide_eq_false hp]
    cases b with
    | false => rfl
    | true => exact absurd (h.1 rfl) hp
instance (e : GEpoch) : Decidable (MayEp e) := by unfold MayEp; infer_instance
section
variable {N : Nat}
theorem countL {l : List Int} (hN : l.length < N) (hl : l.length ≤ 1000000) : Frecord_count N l = some (l.all fun n => decide (cnt n)) := by
  unfold Frecord_count
  refine iter_run (fun q : Srecord_countx2 => 0 ≤ q.t7 ∧ q.t7 ≤ (l.length : Int) ∧ ((l.drop q.t7.toNat).all fun n => decide (cnt n)) = l.all fun n => decide (cnt n)) (fun q => ((l.length : Int) - q.t7).toNat) ?_ N _ ⟨by simp, by simp, by simp⟩ (by simp; omega)
  rintro ⟨i⟩ nx ⟨g0, g1, hq⟩ ih
  simp only at g0 g1 hq ih ⊢
  by_cases hi : i < l.length
  · rw [lget_drop (default : Int) g0 hi, List.all_cons] at hq
    simp only [decide_eq_true hi, ibB_of g0 hi, cond_true]
    generalize lget l i default = n at hq ⊢
    by_cases hn : cnt n
    · have h1 : decide (n < 0) = false := by simpa using hn.1
      have h2 : decide (1099511627776 < n) = false := by simpa using hn.2
      rw [decide_eq_true hn, Bool.true_and] at hq
      simp only [h1, h2, Bool.or_self, cond_false]
      rw [wrap64 (by omega) (by omega)]
      exact ih ⟨i + 1⟩ ⟨by simp; omega, by simp; omega, hq⟩ (by simp; omega)
    · have h1 : (decide (n < 0) || decide (1099511627776 < n)) = true := by unfold cnt at hn; simp; omega
      rw [decide_eq_false hn, Bool.false_and] at hq
      rw [h1, ← hq]; rfl
  · have : decide (i < (l.length : Int)) = false := by simpa using hi
    simp only [this, cond_false]
    rw [List.drop_eq_nil_of_le (by omega)] at hq
    rw [← hq]; rfl
theorem siteL {l : List Int} (hN : l.length < N) (hl : l.length ≤ 1000000) : Frecord_site N l = some (l.all fun n => decide (sit n)) := by
  unfold Frecord_site
  refine iter_run (fun q : Srecord_sitex2 => 0 ≤ q.t7 ∧ q.t7 ≤ (l.length : Int) ∧ ((l.drop q.t7.toNat).all fun n => decide (sit n)) = l.all fun n => decide (sit n)) (fun q => ((l.length : Int) - q.t7).toNat) ?_ N _ ⟨by simp, by simp, by simp⟩ (by simp; omega)
  rintro ⟨i⟩ nx ⟨g0, g1, hq⟩ ih
  simp only at g0 g1 hq ih ⊢
  by_cases hi : i < l.length
  · rw [lget_drop (default : Int) g0 hi, List.all_cons] at hq
    simp only [decide_eq_true hi, ibB_of g0 hi, cond_true]
    generalize lget l i default = n at hq ⊢
    by_cases hn : sit n
    · have h1 : decide (n < 0) = false := by simpa using hn.1
      have h2 : decide (8 ≤ n) = false := by simpa using hn.2
      rw [decide_eq_true hn, Bool.true_and] at hq
      simp only [h1, h2, Bool.or_self, cond_false]
      rw [wrap64 (by omega) (by omega)]
      exact ih ⟨i + 1⟩ ⟨by simp; omega, by simp; omega, hq⟩ (by simp; omega)
    · have h1 : (decide (n < 0) || decide (8 ≤ n)) = true := by unfold sit at hn; simp; omega
      rw [decide_eq_false hn, Bool.false_and] at hq
      rw [h1, ← hq]; rfl
  · have : decide (i < (l.length : Int)) = false := by simpa using hi
    simp only [this, cond_false]
    rw [List.drop_eq_nil_of_le (by omega)] at hq
    rw [← hq]; rfl
theorem mayVec_iff (v : Vector Int 8) : (v.toList.all fun n => decide (cnt n)) = decide (MayVec v) := by
  exact bdec (by unfold MayVec; simp only [List.all_eq_true, decide_eq_true_eq])
theorem index_eq {l : List GOp} (hN : l.length + 12 ≤ N) (hl : l.length ≤ 9223372036854775807) : Fslices_ContainsFunc_Op_d73 N l = some (!(l.all fun o => decide (MayOp o))) := by
  unfold Fslices_ContainsFunc_Op_d73
  have key : ∃ r, Fslices_IndexFunc_Op_d73 N l = some r ∧ decide (0 ≤ r) = !(l.all fun o => decide (MayOp o)) := by
    unfold Fslices_IndexFunc_Op_d73
    refine iter_post (fun q : Sslices_IndexFunc_Op_d73x2 => 0 ≤ q.t8 ∧ q.t8 ≤ (l.length : Int) ∧ ((l.drop q.t8.toNat).all fun n => decide (MayOp n)) = l.all fun n => decide (MayOp n)) (fun q => ((l.length : Int) - q.t8).toNat) _ ?_ N _ ⟨by simp, by simp, by simp⟩ (by simp; omega)
    rintro ⟨i⟩ nx ⟨g0, g1, hq⟩ ih
    simp only at g0 g1 hq ih ⊢
    by_cases hi : i < l.length
    · rw [lget_drop (default : GOp) g0 hi, List.all_cons] at hq
      simp only [decide_eq_true hi, ibB_of g0 hi, cond_true]
      have h1 : Frecord_mayOps_1 N (⟨(lget l i default).Stamp, (lget l i default).Kind, (lget l i default).Node, (lget l i default).Parent, (lget l i default).Name, (lget l i default).Key, (lget l i default).Value⟩ : GOp) = some (!decide (MayOp (lget l i default))) := by
        unfold Frecord_mayOps_1
        rw [mayOp_eq (by omega)]; rfl
      rw [h1, Option.bind_some]
      by_cases ho : MayOp (lget l i default)
      · rw [decide_eq_true ho, Bool.true_and] at hq
        rw [decide_eq_true ho]
        simp only [Bool.not_true, cond_false]
        rw [wrap64 (by omega) (by omega)]
        exact ih ⟨i + 1⟩ ⟨by simp; omega, by simp; omega, hq⟩ (by simp; omega)
      · rw [decide_eq_false ho, Bool.false_and] at hq
        rw [decide_eq_false ho]
        exact ⟨i, rfl, by rw [← hq]; simpa using g0⟩
    · have : decide (i < (l.length : Int)) = false := by simpa using hi
      simp only [this, cond_false]
      rw [List.drop_eq_nil_of_le (by omega)] at hq
      exact ⟨-1, rfl, by rw [← hq]; rfl⟩
  obtain ⟨r, h1, h2⟩ := key
  rw [h1, Option.bind_some, h2]
theorem mayOps_eq {l : List GOp} (hN : l.length + 12 ≤ N) (hl : l.length ≤ 9223372036854775807) : Frecord_mayOps N l 1 = some (decide (MayOps l)) := by
  unfold Frecord_mayOps
  rw [index_eq hN hl]
  simp only [bif_some, Option.bind_some]
  refine congrArg some (bdec ?_)
  unfold MayOps
  by_cases h1 : (1 : Int) ≤ l.length
  · by_cases h2 : (l.length : Int) ≤ 4096
    · simp only [decide_eq_true h1, decide_eq_true h2, Bool.and_self, cond_true, Bool.true_and, Bool.not_not, List.all_eq_true, decide_eq_true_eq]
      exact ⟨fun h => ⟨by omega, by omega, h⟩, fun h => h.2.2⟩
    · simp only [decide_eq_false h2, Bool.and_false, Bool.false_and, Bool.false_eq_true, false_iff]
      exact fun h => h2 (by omega)
  · simp only [decide_eq_false h1, Bool.false_and, Bool.false_eq_true, false_iff]
    exact fun h => h1 (by omega)
theorem mayEpoch_eq (hN : 20 ≤ N) (e : GEpoch) : Frecord_mayEpoch N e = some (decide (MayEp e)) := by
  unfold Frecord_mayEpoch
  rw [countL (by simp; omega) (by simp), Option.bind_some]
  by_cases hn : cnt e.Number
  · simp only [List.all_cons, List.all_nil, Bool.and_true, decide_eq_true hn, cond_true, Bool.true_and]
    rw [countL (by simp; omega) (by simp), Option.bind_some, mayVec_iff]
    refine iter_run (fun q : Srecord_mayEpochx3 => 0 ≤ q.t14 ∧ q.t14 ≤ 8 ∧ (q.ok = true ↔ MayVec e.Seals ∧ ∀ j, j < q.t14.toNat → epOk e j)) (fun q => (8 - q.t14).toNat) ?_ N _ ⟨by simp, by simp, by simp⟩ (by simp; omega)
    rintro ⟨ok, i⟩ nx ⟨g0, g1, hq⟩ ih
    simp only at g0 g1 hq ih ⊢
    by_cases hi : i < 8
    · simp only [decide_eq_true hi, ibB_of g0 hi, Bool.or_true, cond_true]
      rw [wrap64 (by omega) (by omega)]
      refine ih ⟨_, i + 1⟩ ⟨by simp; omega, by simp; omega, ?_⟩ (by simp; omega)
      simp only
      rw [show (i + 1).toNat = i.toNat + 1 by omega]
      have this : (((0 ≤ vget e.States i.toNat default ∧ vget e.States i.toNat default ≤ 3) ∧ -1 ≤ vget e.Sponsor i.toNat default) ∧ vget e.Sponsor i.toNat default < 8) ↔ epOk e i.toNat := by unfold epOk; rw [and_assoc]
      simp only [Bool.and_eq_true, decide_eq_true_eq, hq]
      constructor
      · rintro ⟨⟨⟨⟨⟨h0, h1⟩, h2⟩, h3⟩, h4⟩, h5⟩
        refine ⟨h0, fun j hj => ?_⟩
        rcases Nat.lt_succ_iff_lt_or_eq.1 hj with h | rfl
        · exact h1 j h
        · exact this.1 ⟨⟨⟨h2, h3⟩, h4⟩, h5⟩
      · rintro ⟨h0, h1⟩
        obtain ⟨⟨⟨h2, h3⟩, h4⟩, h5⟩ := this.2 (h1 _ (Nat.lt_succ_self _))
        exact ⟨⟨⟨⟨⟨h0, fun j hj => h1 j (Nat.lt_succ_of_lt hj)⟩, h2⟩, h3⟩, h4⟩, h5⟩
    · have : decide (i < (8 : Int)) = false := by simpa using hi
      simp only [this, cond_false]
      refine congrArg some (bdec ?_)
      rw [hq, show i.toNat = 8 by omega]
      unfold MayEp
      exact ⟨fun h => ⟨hn, h⟩, fun h => h.2⟩
  · have hno : ¬ MayEp e := fun h => hn h.1
    simp only [List.all_cons, List.all_nil, Bool.and_true, decide_eq_false hn, cond_false, decide_eq_false hno]
    refine iter_run (fun q : Srecord_mayEpochx3a => 0 ≤ q.t14 ∧ q.t14 ≤ 8 ∧ q.ok = false) (fun q => (8 - q.t14).toNat) ?_ N _ ⟨by simp, by simp, rfl⟩ (by simp; omega)
    rintro ⟨ok, i⟩ nx ⟨g0, g1, rfl⟩ ih
    simp only at g0 g1 ih ⊢
    by_cases hi : i < 8
    · simp only [decide_eq_true hi, ibB_of g0 hi, Bool.or_true, cond_true, Bool.false_and]
      rw [wrap64 (by omega) (by omega)]
      exact ih ⟨_, i + 1⟩ ⟨by simp; omega, by simp; omega, rfl⟩ (by simp; omega)
    · have : decide (i < (8 : Int)) = false := by simpa using hi
      simp only [this, cond_false]
theorem mayPart_eq (hN : 20 ≤ N) (p : GPart) : Frecord_mayPart N p = some (decide (MayPt p)) := by
  unfold Frecord_mayPart
  rw [countL (by simp; omega) (by simp), Option.bind_some]
  refine congrArg some (bdec ?_)
  unfold MayPt
  simp only [List.all_cons, List.all_nil, Bool.and_true, Bool.and_eq_true, decide_eq_true_eq]
  constructor
  · rintro ⟨⟨⟨⟨⟨h1, h2⟩, h3⟩, h4⟩, h5⟩, h6⟩; exact ⟨h1, ⟨h2, h3⟩, ⟨h4, h5⟩, by omega⟩
  · rintro ⟨h1, ⟨h2, h3⟩, ⟨h4, h5⟩, h6⟩; exact ⟨⟨⟨⟨⟨h1, h2⟩, h3⟩, h4⟩, h5⟩, by omega⟩
end
def zOp : GOp := ⟨(⟨0, 0⟩ : GStamp), 0, 0, 0, [], [], []⟩
def zV : Vector Int 8 := Vector.replicate 8 (default : Int)
def zEp : GEpoch := ⟨0, zV, zV, zV⟩
def zPt : GPart := ⟨0, 0, 0, []⟩
def bareE (e : GEntry) : GEntry :=
  bif e.Kind == 1 then ⟨e.Kind, e.Session, e.Request, e.Op, 0, 0, [], zEp, 0, zV, 0, zPt, 0, 0, 0⟩ else
  bif e.Kind == 2 then ⟨e.Kind, 0, 0, zOp, e.Origin, e.Seq, e.Ops, zEp, 0, zV, 0, zPt, 0, 0, 0⟩ else
  bif e.Kind == 3 then ⟨e.Kind, 0, 0, zOp, 0, 0, [], e.Epoch, 0, zV, 0, zPt, 0, 0, 0⟩ else
  bif e.Kind == 4 then ⟨e.Kind, 0, 0, zOp, 0, e.Seq, [], zEp, e.From, e.Vector_, e.Clock, zPt, 0, 0, 0⟩ else
  bif e.Kind == 5 then ⟨e.Kind, 0, 0, zOp, 0, 0, [], zEp, 0, zV, 0, e.Part, 0, 0, 0⟩ else
  bif e.Kind == 6 then ⟨e.Kind, 0, 0, zOp, 0, 0, [], zEp, 0, zV, 0, zPt, e.Site, e.Sponsor, 0⟩ else
  bif e.Kind == 7 then ⟨e.Kind, 0, 0, zOp, 0, 0, [], zEp, 0, zV, 0, zPt, e.Site, 0, 0⟩ else
  bif e.Kind == 8 then ⟨e.Kind, 0, 0, zOp, 0, 0, [], zEp, 0, zV, 0, zPt, e.Site, 0, e.Length⟩ else
  ⟨e.Kind, 0, 0, zOp, 0, 0, [], zEp, 0, zV, 0, zPt, 0, 0, 0⟩
def condE (e : GEntry) : Bool :=
  bif e.Kind == 1 then decide (cnt e.Session) && decide (0 < e.Session) && decide (cnt e.Request) && decide (0 < e.Request) && decide (MayOp e.Op) else
  bif e.Kind == 2 then decide (sit e.Origin) && decide (cnt e.Seq) && decide (MayOps e.Ops) else
  bif e.Kind == 3 then decide (MayEp e.Epoch) else
  bif e.Kind == 4 then decide (cnt e.Seq) && decide (sit e.From) && decide (MayVec e.Vector_) && decide (cnt e.Clock) else
  bif e.Kind == 5 then decide (MayPt e.Part) else
  decide (sit e.Site) && decide (sit e.Sponsor) && decide (cnt e.Length)
def kindE (e : GEntry) : Prop := 0 ≤ e.Kind ∧ e.Kind ≤ 8
def MayEn (e : GEntry) : Prop := kindE e ∧ e = bareE e ∧ condE e = true
def Verd (P : Prop) (o : Option Int) : Prop := (P ∧ o = some 0) ∨ (¬ P ∧ o = some 40)
theorem verd_of {P : Prop} {b : Bool} (h : b = true ↔ P) (N : Nat) : Verd P ((Frecord_verdict N b).bind fun r => some r) := by
  cases b with
  | true => exact .inl ⟨h.1 rfl, rfl⟩
  | false => exact .inr ⟨fun hp => (by cases h.2 hp), rfl⟩
theorem byt_bare {e : GEntry} (h : byt e.Part.Data) : byt (bareE e).Part.Data := by
  unfold bareE
  cases (e.Kind == 1) <;> cases (e.Kind == 2) <;> cases (e.Kind == 3) <;> cases (e.Kind == 4) <;> cases (e.Kind == 5) <;> cases (e.Kind == 6) <;> cases (e.Kind == 7) <;> cases (e.Kind == 8) <;> first | exact h | (intro x hx; cases hx)
theorem ops_bare (e : GEntry) : (bareE e).Ops.length ≤ e.Ops.length := by
  unfold bareE
  cases (e.Kind == 1) <;> cases (e.Kind == 2) <;> cases (e.Kind == 3) <;> cases (e.Kind == 4) <;> cases (e.Kind == 5) <;> cases (e.Kind == 6) <;> cases (e.Kind == 7) <;> cases (e.Kind == 8) <;> simp
section
variable {N : Nat}
theorem same_bare {e : GEntry} (hb : byt e.Part.Data) : sameE (bareE e) e = true ↔ e = bareE e := by
  rw [sameE_iff (byt_bare hb) hb]; exact eq_comm
theorem checkEntry_eq {e : GEntry} (hN : e.Ops.length + 20 ≤ N) (hl : e.Ops.length ≤ 9223372036854775807) (hb : byt e.Part.Data) : Verd (MayEn e) (Frecord_CheckEntry N e) := by
  have hs : Frecord_SameEntry N (bareE e) e = some (sameE (bareE e) e) := sameEntry_eq (by have := ops_bare e; omega) (by have := ops_bare e; omega)
  have hsb := same_bare hb
  have hmo := fun o => mayOp_eq (N := N) (by omega) o
  have hc1 := fun a => countL (N := N) (l := [a]) (by simp; omega) (by simp)
  have hc2 := fun a b => countL (N := N) (l := [a, b]) (by simp; omega) (by simp)
  have hc8 := fun v : Vector Int 8 => countL (N := N) (l := v.toList) (by simp; omega) (by simp)
  have hs1 := fun a => siteL (N := N) (l := [a]) (by simp; omega) (by simp)
  have hs2 := fun a b => siteL (N := N) (l := [a, b]) (by simp; omega) (by simp)
  have hops := mayOps_eq (N := N) (l := e.Ops) (by omega) hl
  have hep := fun x => mayEpoch_eq (N := N) (by omega) x
  have hpt := fun x => mayPart_eq (N := N) (by omega) x
  have hm : kindE e → ∀ b : Bool, (b = true ↔ e = bareE e ∧ condE e = true) → Verd (MayEn e) ((Frecord_verdict N b).bind fun r => some r) := fun hk b h => verd_of (h.trans ⟨fun h => ⟨hk, h⟩, fun h => h.2⟩) N
  by_cases hk : kindE e
  · replace hm := hm hk
    have hk9 : e.Kind = 0 ∨ e.Kind = 1 ∨ e.Kind = 2 ∨ e.Kind = 3 ∨ e.Kind = 4 ∨ e.Kind = 5 ∨ e.Kind = 6 ∨ e.Kind = 7 ∨ e.Kind = 8 := by unfold kindE at hk; omega
    obtain ⟨kd, a2, a3, a4, a5, a6, a7, a8, a9, a10, a11, a12, a13, a14, a15⟩ := e
    simp only at hk9
    rcases hk9 with rfl | rfl | rfl | rfl | rfl | rfl | rfl | rfl | rfl
    · have hz : Frecord_CheckEntry N (⟨0, a2, a3, a4, a5, a6, a7, a8, a9, a10, a11, a12, a13, a14, a15⟩ : GEntry) = ((Frecord_SameEntry N (bareE ⟨0, a2, a3, a4, a5, a6, a7, a8, a9, a10, a11, a12, a13, a14, a15⟩) ⟨0, a2, a3, a4, a5, a6, a7, a8, a9, a10, a11, a12, a13, a14, a15⟩).bind fun r1 => ((Frecord_verdict N r1).bind fun r2 => (some r2))) := rfl
      rw [hz, hs, Option.bind_some]
      refine hm _ (hsb.trans ⟨fun h => ⟨h, ?_⟩, fun h => h.1⟩)
      rw [h]; rfl
    · have hz : Frecord_CheckEntry N (⟨1, a2, a3, a4, a5, a6, a7, a8, a9, a10, a11, a12, a13, a14, a15⟩ : GEntry) = ((Frecord_count N [a2, a3]).bind fun r3 =>
          ((bif ((r3 && (decide (0 < a2))) && (decide (0 < a3))) then Frecord_mayOp N a4 else some default).bind fun r4 =>
          ((bif (((r3 && (decide (0 < a2))) && (decide (0 < a3))) && r4) then Frecord_SameEntry N (bareE ⟨1, a2, a3, a4, a5, a6, a7, a8, a9, a10, a11, a12, a13, a14, a15⟩) ⟨1, a2, a3, a4, a5, a6, a7, a8, a9, a10, a11, a12, a13, a14, a15⟩ else some default).bind fun r5 =>
          ((Frecord_verdict N ((((r3 && (decide (0 < a2))) && (decide (0 < a3))) && r4) && r5)).bind fun r6 => (some r6))))) := rfl
      rw [hz, hc2, Option.bind_some, hmo, hs]
      simp only [bif_some, Option.bind_some, and_bif]
      refine hm _ ?_
      rw [show condE (⟨1, a2, a3, a4, a5, a6, a7, a8, a9, a10, a11, a12, a13, a14, a15⟩ : GEntry) = (decide (cnt a2) && decide (0 < a2) && decide (cnt a3) && decide (0 < a3) && decide (MayOp a4)) from rfl]
      simp only [Bool.and_eq_true, hsb, List.all_cons, List.all_nil, Bool.and_true]
      constructor
      · rintro ⟨⟨⟨⟨⟨h1, h2⟩, h3⟩, h4⟩, h5⟩, h6⟩; exact ⟨h6, ⟨⟨⟨h1, h3⟩, h2⟩, h4⟩, h5⟩
      · rintro ⟨h6, ⟨⟨⟨h1, h3⟩, h2⟩, h4⟩, h5⟩; exact ⟨⟨⟨⟨⟨h1, h2⟩, h3⟩, h4⟩, h5⟩, h6⟩
    · have hz : Frecord_CheckEntry N (⟨2, a2, a3, a4, a5, a6, a7, a8, a9, a10, a11, a12, a13, a14, a15⟩ : GEntry) = (((Frecord_site N [a5]).bind fun r7 =>
        ((bif r7 then Frecord_count N [a6] else some default).bind fun r8 =>
        ((bif (r7 && r8) then Frecord_mayOps N a7 1 else some default).bind fun r9 =>
        ((bif ((r7 && r8) && r9) then Frecord_SameEntry N (bareE (⟨2, a2, a3, a4, a5, a6, a7, a8, a9, a10, a11, a12, a13, a14, a15⟩ : GEntry)) (⟨2, a2, a3, a4, a5, a6, a7, a8, a9, a10, a11, a12, a13, a14, a15⟩ : GEntry) else some default).bind fun r10 =>
        ((Frecord_verdict N (((r7 && r8) && r9) && r10)).bind fun r11 =>
        (some r11))))))) := rfl
      rw [hz]
      simp only [hs1, hs2, hc1, hc2, hops, hep, hpt, hs, bif_some, Option.bind_some, and_bif, List.all_cons, List.all_nil, Bool.and_true]
      refine hm _ ?_
      rw [show condE (⟨2, a2, a3, a4, a5, a6, a7, a8, a9, a10, a11, a12, a13, a14, a15⟩ : GEntry) = (decide (sit a5) && decide (cnt a6) && decide (MayOps a7)) from rfl]
      simp only [Bool.and_eq_true, hsb]
      exact ⟨fun q => ⟨q.2, q.1⟩, fun q => ⟨q.2, q.1⟩⟩
    · have hz : Frecord_CheckEntry N (⟨3, a2, a3, a4, a5, a6, a7, a8, a9, a10, a11, a12, a13, a14, a15⟩ : GEntry) = (((Frecord_mayEpoch N a8).bind fun r12 =>
        ((bif r12 then Frecord_SameEntry N (bareE (⟨3, a2, a3, a4, a5, a6, a7, a8, a9, a10, a11, a12, a13, a14, a15⟩ : GEntry)) (⟨3, a2, a3, a4, a5, a6, a7, a8, a9, a10, a11, a12, a13, a14, a15⟩ : GEntry) else some default).bind fun r13 =>
        ((Frecord_verdict N (r12 && r13)).bind fun r14 =>
        (some r14))))) := rfl
      rw [hz]
      simp only [hs1, hs2, hc1, hc2, hops, hep, hpt, hs, bif_some, Option.bind_some, and_bif, List.all_cons, List.all_nil, Bool.and_true]
      refine hm _ ?_
      rw [show condE (⟨3, a2, a3, a4, a5, a6, a7, a8, a9, a10, a11, a12, a13, a14, a15⟩ : GEntry) = (decide (MayEp a8)) from rfl]
      simp only [Bool.and_eq_true, hsb]
      exact and_comm
    · have hz : Frecord_CheckEntry N (⟨4, a2, a3, a4, a5, a6, a7, a8, a9, a10, a11, a12, a13, a14, a15⟩ : GEntry) = (((Frecord_count N [a6, a11]).bind fun r15 =>
        ((bif r15 then Frecord_site N [a9] else some default).bind fun r16 =>
        (bif (r15 && r16) then
        ((bif (r15 && r16) then Frecord_count N (a10.toList) else some default).bind fun r17 =>
        ((bif ((r15 && r16) && r17) then Frecord_SameEntry N (bareE (⟨4, a2, a3, a4, a5, a6, a7, a8, a9, a10, a11, a12, a13, a14, a15⟩ : GEntry)) (⟨4, a2, a3, a4, a5, a6, a7, a8, a9, a10, a11, a12, a13, a14, a15⟩ : GEntry) else some default).bind fun r18 =>
        ((Frecord_verdict N (((r15 && r16) && r17) && r18)).bind fun r19 =>
        (some r19))))
        else
        ((bif false then Frecord_SameEntry N (bareE (⟨4, a2, a3, a4, a5, a6, a7, a8, a9, a10, a11, a12, a13, a14, a15⟩ : GEntry)) (⟨4, a2, a3, a4, a5, a6, a7, a8, a9, a10, a11, a12, a13, a14, a15⟩ : GEntry) else some default).bind fun r20 =>
        ((Frecord_verdict N false).bind fun r21 =>
        (some r21))))))) := rfl
      rw [hz, hc2, Option.bind_some]
      simp only [hs1, hc8, hs, mayVec_iff, bif_some, Option.bind_some, and_bif, List.all_cons, List.all_nil, Bool.and_true, cond_false, Bool.false_and]
      by_cases h : (decide (cnt a6) && decide (cnt a11) && decide (sit a9)) = true
      · rw [h]
        simp only [cond_true, Bool.true_and]
        refine hm _ ?_
        rw [show condE (⟨4, a2, a3, a4, a5, a6, a7, a8, a9, a10, a11, a12, a13, a14, a15⟩ : GEntry) = (decide (cnt a6) && decide (sit a9) && decide (MayVec a10) && decide (cnt a11)) from rfl]
        simp only [Bool.and_eq_true] at h
        simp only [Bool.and_eq_true, hsb]
        exact ⟨fun q => ⟨q.2, ⟨⟨h.1.1, h.2⟩, q.1⟩, h.1.2⟩, fun q => ⟨q.2.1.2, q.1⟩⟩
      · rw [Bool.eq_false_iff.2 h]
        simp only [cond_false]
        refine hm _ ?_
        rw [show condE (⟨4, a2, a3, a4, a5, a6, a7, a8, a9, a10, a11, a12, a13, a14, a15⟩ : GEntry) = (decide (cnt a6) && decide (sit a9) && decide (MayVec a10) && decide (cnt a11)) from rfl]
        simp only [Bool.and_eq_true, Bool.false_eq_true, false_iff] at h ⊢
        exact fun q => h ⟨⟨q.2.1.1.1, q.2.2⟩, q.2.1.1.2⟩
    · have hz : Frecord_CheckEntry N (⟨5, a2, a3, a4, a5, a6, a7, a8, a9, a10, a11, a12, a13, a14, a15⟩ : GEntry) = (((Frecord_mayPart N a12).bind fun r22 =>
        ((bif r22 then Frecord_SameEntry N (bareE (⟨5, a2, a3, a4, a5, a6, a7, a8, a9, a10, a11, a12, a13, a14, a15⟩ : GEntry)) (⟨5, a2, a3, a4, a5, a6, a7, a8, a9, a10, a11, a12, a13, a14, a15⟩ : GEntry) else some default).bind fun r23 =>
        ((Frecord_verdict N (r22 && r23)).bind fun r24 =>
        (some r24))))) := rfl
      rw [hz]
      simp only [hs1, hs2, hc1, hc2, hops, hep, hpt, hs, bif_some, Option.bind_some, and_bif, List.all_cons, List.all_nil, Bool.and_true]
      refine hm _ ?_
      rw [show condE (⟨5, a2, a3, a4, a5, a6, a7, a8, a9, a10, a11, a12, a13, a14, a15⟩ : GEntry) = (decide (MayPt a12)) from rfl]
      simp only [Bool.and_eq_true, hsb]
      exact and_comm
    · have hz : Frecord_CheckEntry N (⟨6, a2, a3, a4, a5, a6, a7, a8, a9, a10, a11, a12, a13, a14, a15⟩ : GEntry) = (((Frecord_site N [a13, a14]).bind fun r25 =>
        ((bif r25 then Frecord_SameEntry N (bareE (⟨6, a2, a3, a4, a5, a6, a7, a8, a9, a10, a11, a12, a13, a14, a15⟩ : GEntry)) (⟨6, a2, a3, a4, a5, a6, a7, a8, a9, a10, a11, a12, a13, a14, a15⟩ : GEntry) else some default).bind fun r26 =>
        ((Frecord_verdict N (r25 && r26)).bind fun r27 =>
        (some r27))))) := rfl
      rw [hz]
      simp only [hs1, hs2, hc1, hc2, hops, hep, hpt, hs, bif_some, Option.bind_some, and_bif, List.all_cons, List.all_nil, Bool.and_true]
      refine hm _ ?_
      rw [show condE (⟨6, a2, a3, a4, a5, a6, a7, a8, a9, a10, a11, a12, a13, a14, a15⟩ : GEntry) = (decide (sit a13) && decide (sit a14) && decide (cnt a15)) from rfl]
      simp only [Bool.and_eq_true, hsb]
      refine ⟨fun q => ⟨q.2, q.1, ?_⟩, fun q => ⟨q.2.1, q.1⟩⟩
      have := congrArg GEntry.Length q.2
      change a15 = 0 at this
      subst this; exact decide_eq_true ⟨by decide, by decide⟩
    · have hz : Frecord_CheckEntry N (⟨7, a2, a3, a4, a5, a6, a7, a8, a9, a10, a11, a12, a13, a14, a15⟩ : GEntry) = (((Frecord_site N [a13]).bind fun r28 =>
        ((bif r28 then Frecord_SameEntry N (bareE (⟨7, a2, a3, a4, a5, a6, a7, a8, a9, a10, a11, a12, a13, a14, a15⟩ : GEntry)) (⟨7, a2, a3, a4, a5, a6, a7, a8, a9, a10, a11, a12, a13, a14, a15⟩ : GEntry) else some default).bind fun r29 =>
        ((Frecord_verdict N (r28 && r29)).bind fun r30 =>
        (some r30))))) := rfl
      rw [hz]
      simp only [hs1, hs2, hc1, hc2, hops, hep, hpt, hs, bif_some, Option.bind_some, and_bif, List.all_cons, List.all_nil, Bool.and_true]
      refine hm _ ?_
      rw [show condE (⟨7, a2, a3, a4, a5, a6, a7, a8, a9, a10, a11, a12, a13, a14, a15⟩ : GEntry) = (decide (sit a13) && decide (sit a14) && decide (cnt a15)) from rfl]
      simp only [Bool.and_eq_true, hsb]
      refine ⟨fun q => ⟨q.2, ⟨q.1, ?_⟩, ?_⟩, fun q => ⟨q.2.1.1, q.1⟩⟩
      · have := congrArg GEntry.Sponsor q.2
        change a14 = 0 at this
        subst this; exact decide_eq_true ⟨by decide, by decide⟩
      · have := congrArg GEntry.Length q.2
        change a15 = 0 at this
        subst this; exact decide_eq_true ⟨by decide, by decide⟩
    · have hz : Frecord_CheckEntry N (⟨8, a2, a3, a4, a5, a6, a7, a8, a9, a10, a11, a12, a13, a14, a15⟩ : GEntry) = (((Frecord_site N [a13]).bind fun r31 =>
        ((bif r31 then Frecord_count N [a15] else some default).bind fun r32 =>
        ((bif (r31 && r32) then Frecord_SameEntry N (bareE (⟨8, a2, a3, a4, a5, a6, a7, a8, a9, a10, a11, a12, a13, a14, a15⟩ : GEntry)) (⟨8, a2, a3, a4, a5, a6, a7, a8, a9, a10, a11, a12, a13, a14, a15⟩ : GEntry) else some default).bind fun r33 =>
        ((Frecord_verdict N ((r31 && r32) && r33)).bind fun r34 =>
        (some r34)))))) := rfl
      rw [hz]
      simp only [hs1, hs2, hc1, hc2, hops, hep, hpt, hs, bif_some, Option.bind_some, and_bif, List.all_cons, List.all_nil, Bool.and_true]
      refine hm _ ?_
      rw [show condE (⟨8, a2, a3, a4, a5, a6, a7, a8, a9, a10, a11, a12, a13, a14, a15⟩ : GEntry) = (decide (sit a13) && decide (sit a14) && decide (cnt a15)) from rfl]
      simp only [Bool.and_eq_true, hsb]
      refine ⟨fun q => ⟨q.2, ⟨q.1.1, ?_⟩, q.1.2⟩, fun q => ⟨⟨q.2.1.1, q.2.2⟩, q.1⟩⟩
      have := congrArg GEntry.Sponsor q.2
      change a14 = 0 at this
      subst this; exact decide_eq_true ⟨by decide, by decide⟩
  · refine Or.inr ⟨fun h => hk h.1, ?_⟩
    have hne : ∀ k : Int, 0 ≤ k → k ≤ 8 → (e.Kind == k) = false := fun k h0 h8 => by
      refine beq_eq_false_iff_ne.2 fun h => hk ?_
      unfold kindE; omega
    unfold Frecord_CheckEntry
    rw [hne 0 (by decide) (by decide), hne 1 (by decide) (by decide), hne 2 (by decide) (by decide), hne 3 (by decide) (by decide), hne 4 (by decide) (by decide), hne 5 (by decide) (by decide), hne 6 (by decide) (by decide), hne 7 (by decide) (by decide), hne 8 (by decide) (by decide)]
    rfl
end
section
variable {N : Nat}
end
def opsC (l : List GOp) : List (List Int) := [(l.length : Int)].map pI ++ (l.map opC).flatten
section
variable {N : Nat} {e0 : Int} {w : List Int}
end
theorem pI_byt {n : Int} (h : R64 n) : byt (pI n) := by
  intro x hx
  exact vint_byte 9 (zig n) (Nat.lt_trans (zig_lt h) (by decide)) x hx
def CB (cs : List (List Int)) : Prop := ∀ c ∈ cs, byt c
theorem CB.append {a b : List (List Int)} (ha : CB a) (hb : CB b) : CB (a ++ b) := fun c hc => (List.mem_append.1 hc).elim (ha c) (hb c)
theorem CB.flat {cs : List (List Int)} (h : CB cs) : byt cs.flatten := fun x hx => by
  obtain ⟨c, hc, hx⟩ := List.mem_flatten.1 hx
  exact h c hc x hx
theorem CB.nil : CB [] := fun c hc => by cases hc
theorem CB.ints {l : List Int} (h : ∀ n ∈ l, R64 n) : CB (l.map pI) := fun c hc => by
  obtain ⟨n, hn, rfl⟩ := List.mem_map.1 hc
  exact pI_byt (h n hn)
theorem CB.int1 {a : Int} (ha : R64 a) : CB ([a].map pI) := CB.ints (by intro n hn; simp at hn; subst hn; exact ha)
theorem CB.int2 {a b : Int} (ha : R64 a) (hb : R64 b) : CB ([a, b].map pI) := CB.ints (by intro n hn; simp at hn; rcases hn with rfl | rfl <;> assumption)
theorem byt_pB {l : List Int} (hl : l.length ≤ 1048576) (h : byt l) : byt (pB l) := fun x hx => by
  unfold pB at hx
  rcases List.mem_append.1 hx with hx | hx
  · exact pI_byt (n := (l.length : Int)) ⟨by omega, by omega⟩ x hx
  · exact h x hx
theorem byt_bytesI (s : List UInt8) : byt (bytesI s) := fun x hx => by
  unfold bytesI at hx
  obtain ⟨b, _, rfl⟩ := List.mem_map.1 hx
  have := b.toNat_lt
  exact ⟨by omega, by omega⟩
theorem CB.texts {l : List (List UInt8)} (h : ∀ s ∈ l, s.length ≤ 1048576) : CB (l.map pT) := fun c hc => by
  obtain ⟨s, hs, rfl⟩ := List.mem_map.1 hc
  exact byt_pB (by rw [bytesI_len]; exact h s hs) (byt_bytesI s)
theorem CB.op {o : GOp} (h : MayOp o) : CB (opC o) := by
  obtain ⟨h1, h2, h3, h4, h5, h6, h7, h8⟩ := h
  exact (((CB.int1 ⟨by omega, by omega⟩).append (CB.int2 ⟨by omega, by omega⟩ ⟨by omega, by omega⟩)).append (CB.int2 ⟨by omega, by omega⟩ ⟨by omega, by omega⟩)).append (CB.texts (by intro s hs; simp at hs; rcases hs with rfl | rfl | rfl <;> omega))
theorem CB.ops {l : List GOp} (h : MayOps l) : CB (opsC l) :=
  (CB.int1 ⟨by omega, by have := h.2.1; omega⟩).append fun c hc => by
    obtain ⟨cs, hcs, hc⟩ := List.mem_flatten.1 hc
    obtain ⟨o, ho, rfl⟩ := List.mem_map.1 hcs
    exact CB.op (h.2.2 o ho) c hc
section
variable {N : Nat}
end
def MayAd (a : GAddr) : Prop := (0 ≤ a.Group ∧ a.Group < 9) ∧ (0 ≤ a.Replica ∧ a.Replica < 5)
instance (a : GAddr) : Decidable (MayAd a) := by unfold MayAd; infer_instance
def MayBa (b : GBallot) : Prop := cnt b.Round ∧ (0 ≤ b.Replica ∧ b.Replica < 5)
instance (b : GBallot) : Decidable (MayBa b) := by unfold MayBa; infer_instance
section
variable {N : Nat}
theorem mayBallot_eq (hN : 20 ≤ N) (b : GBallot) : Frecord_mayBallot N b = some (decide (MayBa b)) := by
  unfold Frecord_mayBallot
  rw [countL (by simp; omega) (by simp), Option.bind_some]
  refine congrArg some (bdec ?_)
  unfold MayBa
  simp only [List.all_cons, List.all_nil, Bool.and_true, Bool.and_eq_true, decide_eq_true_eq, and_assoc]
theorem mayAddr_eq (hN : 20 ≤ N) (a b : GAddr) : Frecord_mayAddr N [a, b] = some (decide (MayAd a) && decide (MayAd b)) := by
  obtain ⟨k, rfl⟩ : ∃ k, N = k + 20 := ⟨N - 20, by omega⟩
  have : Frecord_mayAddr (k + 20) [a, b] = (bif ((((decide (a.Group < 0)) || (decide (9 ≤ a.Group))) || (decide (a.Replica < 0))) || (decide (5 ≤ a.Replica))) then some false else
      bif ((((decide (b.Group < 0)) || (decide (9 ≤ b.Group))) || (decide (b.Replica < 0))) || (decide (5 ≤ b.Replica))) then some false else some true) := by kernel_rfl
  rw [this]
  have key : ∀ a : GAddr, ((((decide (a.Group < 0)) || (decide (9 ≤ a.Group))) || (decide (a.Replica < 0))) || (decide (5 ≤ a.Replica))) = !decide (MayAd a) := fun a => by
    by_cases h : MayAd a
    · have h' := h
      obtain ⟨⟨h1, h2⟩, h3, h4⟩ := h'
      rw [decide_eq_true h, decide_eq_false (by omega), decide_eq_false (by omega), decide_eq_false (by omega), decide_eq_false (by omega)]; rfl
    · rw [decide_eq_false h]
      unfold MayAd at h
      simp only [Bool.or_eq_true, decide_eq_true_eq, Bool.not_false]
      omega
  rw [key, key]
  cases decide (MayAd a) <;> cases decide (MayAd b) <;> rfl
end
def slq (a b : GSlotted) : Bool := ((a.Slot == b.Slot) && ((a.Ballot.Round == b.Ballot.Round) && (a.Ballot.Replica == b.Ballot.Replica))) && sameE a.Entry b.Entry
theorem slq_iff {a b : GSlotted} (ha : byt a.Entry.Part.Data) (hb : byt b.Entry.Part.Data) : slq a b = true ↔ a = b := by
  obtain ⟨a1, ⟨a2, a3⟩, a4⟩ := a
  obtain ⟨b1, ⟨b2, b3⟩, b4⟩ := b
  simp only [slq, Bool.and_eq_true, beq_iff_eq, sameE_iff (a := a4) (b := b4) ha hb, GSlotted.mk.injEq, GBallot.mk.injEq, and_assoc]
def slqs (a b : List GSlotted) : Bool := ((a.length : Int) == (b.length : Int)) && ((a.zip b).all fun p => slq p.1 p.2)
theorem slqs_iff : ∀ {a b : List GSlotted}, (∀ x ∈ a, byt x.Entry.Part.Data) → (∀ x ∈ b, byt x.Entry.Part.Data) → (slqs a b = true ↔ a = b)
  | [], [], _, _ => by simp [slqs]
  | [], y :: b, _, _ => by simp [slqs]; omega
  | x :: a, [], _, _ => by simp [slqs]; omega
  | x :: a, y :: b, ha, hb => by
    have ih := slqs_iff (a := a) (b := b) (fun z hz => ha z (by simp [hz])) (fun z hz => hb z (by simp [hz]))
    have h1 := slq_iff (ha x (by simp)) (hb y (by simp))
    unfold slqs at ih ⊢
    simp only [List.length_cons, List.zip_cons_cons, List.all_cons, Bool.and_eq_true, beq_iff_eq, List.cons.injEq] at ih ⊢
    constructor
    · rintro ⟨h, h2, h3⟩; exact ⟨h1.1 h2, ih.1 ⟨by omega, h3⟩⟩
    · rintro ⟨h, h2⟩; obtain ⟨h3, h4⟩ := ih.2 h2; exact ⟨by omega, h1.2 h, h4⟩
section
variable {N : Nat}
def roomS (N : Nat) (l : List GSlotted) : Prop := l.length + 20 ≤ N ∧ l.length ≤ 9223372036854775807 ∧ ∀ x ∈ l, x.Entry.Ops.length + 20 ≤ N ∧ x.Entry.Ops.length ≤ 9223372036854775807 ∧ byt x.Entry.Part.Data
theorem sameSl1 {a b : GSlotted} (h : a.Entry.Ops.length + 20 ≤ N ∧ a.Entry.Ops.length ≤ 9223372036854775807 ∧ byt a.Entry.Part.Data) : Frecord_sameSlotted N a b = some (slq a b) := by
  unfold Frecord_sameSlotted
  rw [sameEntry_eq (by omega) h.2.1]
  simp only [bif_some, Option.bind_some, and_bif]
  rfl
theorem sameSl_eq {a b : List GSlotted} (ha : roomS N a) : Fslices_EqualFunc_Slotted_117 N a b = some (slqs a b) := by
  obtain ⟨hN, hm, hr⟩ := ha
  unfold Fslices_EqualFunc_Slotted_117 slqs
  by_cases hl : a.length = b.length
  · simp only [hl, beq_self_eq_true, Bool.not_true, cond_false, Bool.true_and]
    refine iter_run (fun q : Sslices_EqualFunc_Slotted_117x4 => 0 ≤ q.t17 ∧ q.t17 ≤ (a.length : Int) ∧ (((a.drop q.t17.toNat).zip (b.drop q.t17.toNat)).all fun p => slq p.1 p.2) = ((a.zip b).all fun p => slq p.1 p.2)) (fun q => ((a.length : Int) - q.t17).toNat) ?_ N _ ⟨by simp, by simp, by simp⟩ (by simp; omega)
    rintro ⟨i⟩ nx ⟨g0, g1, hq⟩ ih
    simp only at g0 g1 hq ih ⊢
    by_cases hi : i < b.length
    · have hi' : i < a.length := by omega
      have hro := hr _ (lget_mem (default : GSlotted) g0 hi')
      rw [lget_drop (default : GSlotted) g0 hi, lget_drop (default : GSlotted) g0 hi', List.zip_cons_cons, List.all_cons] at hq
      simp only [decide_eq_true hi, ibB_of g0 hi, cond_true]
      change (Frecord_sameSlotted N (lget a i default) (lget b i default)).bind _ = _
      rw [sameSl1 hro, Option.bind_some]
      cases ho : slq (lget a i default) (lget b i default) with
      | true =>
        rw [ho, Bool.true_and] at hq
        simp only [Bool.not_true, cond_false]
        rw [wrap64 (by omega) (by omega)]
        exact ih ⟨i + 1⟩ ⟨by simp; omega, by simp; omega, hq⟩ (by simp; omega)
      | false => rw [ho, Bool.false_and] at hq; rw [← hq]; rfl
    · have : decide (i < (b.length : Int)) = false := by simpa using hi
      simp only [this, cond_false]
      rw [List.drop_eq_nil_of_le (by omega)] at hq
      rw [← hq]; rfl
  · have : ((a.length : Int) == (b.length : Int)) = false := by simp; omega
    simp only [this, Bool.not_false, cond_true, Bool.false_and]
theorem refSameSl1 {a b : GSlotted} (h : a.Entry.Ops.length + 20 ≤ N ∧ a.Entry.Ops.length ≤ 9223372036854775807 ∧ byt a.Entry.Part.Data) : Fref04_SameSlotted N a b = some (slq a b) := by
  unfold Fref04_SameSlotted
  rw [refSameEntry_eq (by omega) h.2.1]
  simp only [bif_some, Option.bind_some, and_bif]
  rfl
theorem refSameSl_eq {a b : List GSlotted} (ha : roomS N a) : Fref04_SameList N a b = some (slqs a b) := by
  obtain ⟨hN, hm, hr⟩ := ha
  unfold Fref04_SameList slqs
  by_cases hl : a.length = b.length
  · simp only [hl, beq_self_eq_true, Bool.not_true, cond_false, Bool.true_and]
    refine iter_run (fun q : Sref04_SameListx4 => 0 ≤ q.i ∧ q.i ≤ (a.length : Int) ∧ (((a.drop q.i.toNat).zip (b.drop q.i.toNat)).all fun p => slq p.1 p.2) = ((a.zip b).all fun p => slq p.1 p.2)) (fun q => ((a.length : Int) - q.i).toNat) ?_ N _ ⟨by simp, by simp, by simp⟩ (by simp; omega)
    rintro ⟨i⟩ nx ⟨g0, g1, hq⟩ ih
    simp only at g0 g1 hq ih ⊢
    by_cases hi : i < b.length
    · have hi' : i < a.length := by omega
      have hro := hr _ (lget_mem (default : GSlotted) g0 hi')
      rw [lget_drop (default : GSlotted) g0 hi, lget_drop (default : GSlotted) g0 hi', List.zip_cons_cons, List.all_cons] at hq
      simp only [decide_eq_true hi, ibB_of g0 hi, cond_true]
      change (Fref04_SameSlotted N (lget a i default) (lget b i default)).bind _ = _
      rw [refSameSl1 hro, Option.bind_some]
      cases ho : slq (lget a i default) (lget b i default) with
      | true =>
        rw [ho, Bool.true_and] at hq
        simp only [Bool.not_true, cond_false]
        rw [wrap64 (by omega) (by omega)]
        exact ih ⟨i + 1⟩ ⟨by simp; omega, by simp; omega, hq⟩ (by simp; omega)
      | false => rw [ho, Bool.false_and] at hq; rw [← hq]; rfl
    · have : decide (i < (b.length : Int)) = false := by simpa using hi
      simp only [this, cond_false]
      rw [List.drop_eq_nil_of_le (by omega)] at hq
      rw [← hq]; rfl
  · have : ((a.length : Int) == (b.length : Int)) = false := by simp; omega
    simp only [this, Bool.not_false, cond_true, Bool.false_and]
end
def adq (a b : GAddr) : Bool := (a.Group == b.Group) && (a.Replica == b.Replica)
def baq (a b : GBallot) : Bool := (a.Round == b.Round) && (a.Replica == b.Replica)
theorem adq_iff (a b : GAddr) : adq a b = true ↔ a = b := by
  obtain ⟨a1, a2⟩ := a
  obtain ⟨b1, b2⟩ := b
  simp only [adq, Bool.and_eq_true, beq_iff_eq, GAddr.mk.injEq]
theorem baq_iff (a b : GBallot) : baq a b = true ↔ a = b := by
  obtain ⟨a1, a2⟩ := a
  obtain ⟨b1, b2⟩ := b
  simp only [baq, Bool.and_eq_true, beq_iff_eq, GBallot.mk.injEq]
def sameM (a b : GMsg) : Bool :=
  (((((((((((((a.Kind == b.Kind) && adq a.From b.From) && adq a.To b.To) && baq a.Ballot b.Ballot) && (a.Slot == b.Slot)) && slqs a.List_ b.List_) && sameE a.Entry b.Entry) && (a.Number == b.Number)) && (vbeq beq2 a.Vector_ b.Vector_)) && (a.Clock == b.Clock)) && (a.Origin == b.Origin)) && opsB a.Ops b.Ops) && epq a.Epoch b.Epoch) && ptq a.Part b.Part
def bytM (m : GMsg) : Prop := (∀ x ∈ m.List_, byt x.Entry.Part.Data) ∧ byt m.Entry.Part.Data ∧ byt m.Part.Data
def roomM (N : Nat) (m : GMsg) : Prop := roomS N m.List_ ∧ (m.Entry.Ops.length + 20 ≤ N ∧ m.Entry.Ops.length ≤ 9223372036854775807 ∧ byt m.Entry.Part.Data) ∧ (m.Ops.length + 20 ≤ N ∧ m.Ops.length ≤ 9223372036854775807) ∧ byt m.Part.Data
theorem roomM.byt {N : Nat} {m : GMsg} (h : roomM N m) : bytM m := ⟨fun x hx => (h.1.2.2 x hx).2.2, h.2.1.2.2, h.2.2.2⟩
theorem sameM_iff {a b : GMsg} (ha : bytM a) (hb : bytM b) : sameM a b = true ↔ a = b := by
  obtain ⟨a1, a2, a3, a4, a5, a6, a7, a8, a9, a10, a11, a12, a13, a14⟩ := a
  obtain ⟨b1, b2, b3, b4, b5, b6, b7, b8, b9, b10, b11, b12, b13, b14⟩ := b
  obtain ⟨p1, p2, p3⟩ := ha
  obtain ⟨q1, q2, q3⟩ := hb
  simp only [sameM, Bool.and_eq_true, beq_iff_eq, adq_iff, baq_iff, slqs_iff (a := a6) (b := b6) p1 q1, sameE_iff (a := a7) (b := b7) p2 q2, vbeq_iff beq2_iff, opsB_iff, epq_iff, ptq_iff (a := a14) (b := b14) p3 q3, GMsg.mk.injEq, and_assoc]
section
variable {N : Nat}
theorem sameMsg_eq {a b : GMsg} (h : roomM N a) : Frecord_SameMsg N a b = some (sameM a b) := by
  obtain ⟨h1, h2, h3, h4⟩ := h
  unfold Frecord_SameMsg Frecord_samePart
  rw [sameSl_eq h1, sameEntry_eq (by omega) h2.2.1, equalOps_eq (by omega) h3.2]
  simp only [bif_some, Option.bind_some, and_bif]
  rfl
theorem refSameMsg_eq {a b : GMsg} (h : roomM N a) : Fref04_SameMsg N a b = some (sameM a b) := by
  obtain ⟨h1, h2, h3, h4⟩ := h
  unfold Fref04_SameMsg Fref04_SamePart
  rw [refSameSl_eq h1, refSameEntry_eq (by omega) h2.2.1, refOps_eq (by omega) h3.2]
  simp only [bif_some, Option.bind_some, and_bif]
  rfl
end
def mayEn (e : GEntry) : Bool := decide (0 ≤ e.Kind ∧ e.Kind ≤ 8) && sameE e (bareE e) && condE e
theorem mayEn_iff {e : GEntry} (hb : byt e.Part.Data) : mayEn e = true ↔ MayEn e := by
  unfold mayEn MayEn kindE
  simp only [Bool.and_eq_true, decide_eq_true_eq, sameE_iff hb (byt_bare hb), and_assoc]
def maySl (x : GSlotted) : Bool := decide (cnt x.Slot) && decide (MayBa x.Ballot) && mayEn x.Entry
section
variable {N : Nat}
theorem checkEntryB {e : GEntry} (h : e.Ops.length + 20 ≤ N ∧ e.Ops.length ≤ 9223372036854775807 ∧ byt e.Part.Data) : Frecord_CheckEntry N e = some (bif mayEn e then 0 else 40) := by
  rcases checkEntry_eq h.1 h.2.1 h.2.2 with ⟨p, q⟩ | ⟨p, q⟩
  · rw [q, (mayEn_iff h.2.2).2 p]; rfl
  · have : mayEn e = false := Bool.eq_false_iff.2 fun hm => p ((mayEn_iff h.2.2).1 hm)
    rw [q, this]; rfl
theorem maySl1 (hN : 20 ≤ N) {x : GSlotted} (h : x.Entry.Ops.length + 20 ≤ N ∧ x.Entry.Ops.length ≤ 9223372036854775807 ∧ byt x.Entry.Part.Data) : Frecord_maySlotted_1 N x = some (!maySl x) := by
  unfold Frecord_maySlotted_1 maySl
  rw [countL (by simp; omega) (by simp), mayBallot_eq hN, checkEntryB h]
  simp only [Option.bind_some, List.all_cons, List.all_nil, Bool.and_true]
  cases decide (cnt x.Slot) <;> cases decide (MayBa x.Ballot) <;> cases mayEn x.Entry <;> rfl
theorem indexSl_eq {l : List GSlotted} (h : roomS N l) : Fslices_ContainsFunc_Slotted_283 N l = some (!(l.all maySl)) := by
  obtain ⟨hN, hm, hr⟩ := h
  unfold Fslices_ContainsFunc_Slotted_283
  have key : ∃ r, Fslices_IndexFunc_Slotted_283 N l = some r ∧ decide (0 ≤ r) = !(l.all maySl) := by
    unfold Fslices_IndexFunc_Slotted_283
    refine iter_post (fun q : Sslices_IndexFunc_Slotted_283x2 => 0 ≤ q.t8 ∧ q.t8 ≤ (l.length : Int) ∧ ((l.drop q.t8.toNat).all maySl) = l.all maySl) (fun q => ((l.length : Int) - q.t8).toNat) _ ?_ N _ ⟨by simp, by simp, by simp⟩ (by simp; omega)
    rintro ⟨i⟩ nx ⟨g0, g1, hq⟩ ih
    simp only at g0 g1 hq ih ⊢
    by_cases hi : i < l.length
    · have hro := hr _ (lget_mem (default : GSlotted) g0 hi)
      rw [lget_drop (default : GSlotted) g0 hi, List.all_cons] at hq
      simp only [decide_eq_true hi, ibB_of g0 hi, cond_true]
      change ∃ r, (Frecord_maySlotted_1 N (lget l i default)).bind _ = some r ∧ _
      rw [maySl1 (by omega) hro, Option.bind_some]
      cases ho : maySl (lget l i default) with
      | true =>
        rw [ho, Bool.true_and] at hq
        simp only [Bool.not_true, cond_false]
        rw [wrap64 (by omega) (by omega)]
        exact ih ⟨i + 1⟩ ⟨by simp; omega, by simp; omega, hq⟩ (by simp; omega)
      | false =>
        rw [ho, Bool.false_and] at hq
        exact ⟨i, rfl, by rw [← hq]; simpa using g0⟩
    · have : decide (i < (l.length : Int)) = false := by simpa using hi
      simp only [this, cond_false]
      rw [List.drop_eq_nil_of_le (by omega)] at hq
      exact ⟨-1, rfl, by rw [← hq]; rfl⟩
  obtain ⟨r, h1, h2⟩ := key
  rw [h1, Option.bind_some, h2]
end
def mayLst (l : List GSlotted) (a b : Int) : Bool := (decide (a ≤ (l.length : Int)) && decide ((l.length : Int) ≤ b)) && l.all maySl
section
variable {N : Nat}
theorem maySlotted_eq {l : List GSlotted} (h : roomS N l) (a b : Int) : Frecord_maySlotted N l a b = some (mayLst l a b) := by
  unfold Frecord_maySlotted mayLst
  rw [indexSl_eq h]
  simp only [bif_some, Option.bind_some]
  cases decide (a ≤ (l.length : Int)) <;> cases decide ((l.length : Int) ≤ b) <;> cases l.all maySl <;> rfl
end
def zBa : GBallot := ⟨0, 0⟩
def zEn : GEntry := ⟨0, 0, 0, zOp, 0, 0, [], zEp, 0, zV, 0, zPt, 0, 0, 0⟩
def bareM (m : GMsg) : GMsg :=
  bif m.Kind == 1 then ⟨m.Kind, m.From, m.To, m.Ballot, m.Slot, [], zEn, 0, zV, 0, 0, [], zEp, zPt⟩ else
  bif m.Kind == 2 then ⟨m.Kind, m.From, m.To, m.Ballot, m.Slot, m.List_, zEn, 0, zV, 0, 0, [], zEp, zPt⟩ else
  bif m.Kind == 3 then ⟨m.Kind, m.From, m.To, m.Ballot, 0, m.List_, zEn, 0, zV, 0, 0, [], zEp, zPt⟩ else
  bif m.Kind == 4 then ⟨m.Kind, m.From, m.To, m.Ballot, m.Slot, [], zEn, 0, zV, 0, 0, [], zEp, zPt⟩ else
  bif m.Kind == 5 then ⟨m.Kind, m.From, m.To, m.Ballot, 0, [], zEn, 0, zV, 0, 0, [], zEp, zPt⟩ else
  bif m.Kind == 6 then ⟨m.Kind, m.From, m.To, zBa, 0, m.List_, zEn, 0, zV, 0, 0, [], zEp, zPt⟩ else
  bif m.Kind == 7 then ⟨m.Kind, m.From, m.To, m.Ballot, m.Slot, [], zEn, 0, zV, 0, 0, [], zEp, zPt⟩ else
  bif m.Kind == 8 then ⟨m.Kind, m.From, m.To, zBa, m.Slot, [], zEn, 0, zV, 0, 0, [], zEp, zPt⟩ else
  bif m.Kind == 9 then ⟨m.Kind, m.From, m.To, zBa, 0, [], m.Entry, 0, zV, 0, 0, [], zEp, zPt⟩ else
  bif m.Kind == 10 then ⟨m.Kind, m.From, m.To, zBa, 0, [], zEn, m.Number, m.Vector_, m.Clock, 0, [], zEp, zPt⟩ else
  bif m.Kind == 11 then ⟨m.Kind, m.From, m.To, zBa, m.Slot, [], zEn, m.Number, zV, 0, m.Origin, m.Ops, zEp, zPt⟩ else
  bif m.Kind == 12 then ⟨m.Kind, m.From, m.To, zBa, 0, [], zEn, 0, zV, 0, 0, [], m.Epoch, zPt⟩ else
  bif m.Kind == 13 then ⟨m.Kind, m.From, m.To, zBa, 0, [], zEn, 0, zV, 0, 0, [], zEp, m.Part⟩ else
  bif m.Kind == 14 then ⟨m.Kind, m.From, m.To, zBa, 0, [], zEn, m.Number, m.Vector_, 0, 0, [], zEp, zPt⟩ else
  bif m.Kind == 15 then ⟨m.Kind, m.From, m.To, zBa, m.Slot, [], zEn, 0, zV, 0, 0, [], zEp, m.Part⟩ else
  ⟨m.Kind, m.From, m.To, zBa, 0, [], zEn, 0, zV, 0, 0, [], zEp, zPt⟩
def spM (m : GMsg) : Bool :=
  bif m.Kind == 3 then ((m.List_.length : Int) == 1) else
  bif m.Kind == 6 then decide (1 ≤ (m.List_.length : Int)) else
  bif m.Kind == 11 then decide (sit m.Origin) && decide (MayOps m.Ops) else
  bif m.Kind == 12 then decide (MayEp m.Epoch) else
  bif m.Kind == 13 then decide (MayPt m.Part) else
  bif m.Kind == 15 then decide (MayPt m.Part) else true
def sp2 (m : GMsg) : Bool :=
  bif m.Kind == 2 then mayLst m.List_ 0 4096 else
  bif m.Kind == 3 then mayLst m.List_ 1 1 else
  bif m.Kind == 6 then mayLst m.List_ 1 4096 else
  bif m.Kind == 9 then mayEn m.Entry else
  bif m.Kind == 11 then decide (sit m.Origin) && decide (MayOps m.Ops) else
  bif m.Kind == 12 then decide (MayEp m.Epoch) else
  bif m.Kind == 13 then decide (MayPt m.Part) else
  bif m.Kind == 15 then decide (MayPt m.Part) else true
def kindM (m : GMsg) : Prop := 1 ≤ m.Kind ∧ m.Kind ≤ 15
instance (m : GMsg) : Decidable (kindM m) := by unfold kindM; infer_instance
def numM (b : GMsg) : Bool := decide (MayBa b.Ballot) && (decide (cnt b.Slot) && decide (cnt b.Number) && decide (cnt b.Clock)) && decide (MayVec b.Vector_)
def mayM (m : GMsg) : Bool := decide (kindM m) && sameM m (bareM m) && (decide (MayAd m.From) && decide (MayAd m.To)) && numM m && sp2 m
theorem kind15 {m : GMsg} (h : kindM m) : m.Kind = 1 ∨ m.Kind = 2 ∨ m.Kind = 3 ∨ m.Kind = 4 ∨ m.Kind = 5 ∨ m.Kind = 6 ∨ m.Kind = 7 ∨ m.Kind = 8 ∨ m.Kind = 9 ∨ m.Kind = 10 ∨ m.Kind = 11 ∨ m.Kind = 12 ∨ m.Kind = 13 ∨ m.Kind = 14 ∨ m.Kind = 15 := by unfold kindM at h; omega
theorem mayEn_z : mayEn zEn = true := by kernel_rfl
section
variable {N : Nat}
theorem checkH_eq (hN : 20 ≤ N) {o : Bool} {m x b : GMsg} (hb : roomM N b) : Hrecord_CheckMsg N x ⟨o, m, b⟩ = some (bif (((o && numM b) && mayLst b.List_ 0 4096) && mayEn b.Entry) && sameM b m then 0 else 40) := by
  have h3 : Frecord_count N [b.Slot, b.Number, b.Clock] = some (decide (cnt b.Slot) && decide (cnt b.Number) && decide (cnt b.Clock)) := by
    rw [countL (by simp; omega) (by simp)]; simp [Bool.and_assoc]
  have h8 : Frecord_count N b.Vector_.toList = some (decide (MayVec b.Vector_)) := by
    rw [countL (by simp; omega) (by simp), mayVec_iff]
  unfold Hrecord_CheckMsg numM
  simp only [mayBallot_eq hN, h3, h8, maySlotted_eq hb.1, checkEntryB hb.2.1, sameMsg_eq hb, bif_some, Option.bind_some, and_bif]
  generalize decide (MayBa b.Ballot) = p1
  generalize (decide (cnt b.Slot) && decide (cnt b.Number) && decide (cnt b.Clock)) = p2
  generalize decide (MayVec b.Vector_) = p3
  generalize mayLst b.List_ 0 4096 = p4
  generalize mayEn b.Entry = p5
  generalize sameM b m = p6
  cases o <;> cases p1 <;> cases p2 <;> cases p3 <;> cases p4 <;> cases p5 <;> cases p6 <;> rfl
theorem roomM_bare {m : GMsg} (h : roomM N m) (hN : 20 ≤ N) : roomM N (bareM m) := by
  obtain ⟨h1, h2, h3, h4⟩ := h
  have r1 : roomS N ([] : List GSlotted) := ⟨by simp; omega, by simp, fun x hx => by cases hx⟩
  have r2 : zEn.Ops.length + 20 ≤ N ∧ zEn.Ops.length ≤ 9223372036854775807 ∧ byt zEn.Part.Data := ⟨by simpa [zEn] using hN, by simp [zEn], fun x hx => by cases hx⟩
  have r3 : ([] : List GOp).length + 20 ≤ N ∧ ([] : List GOp).length ≤ 9223372036854775807 := ⟨by simpa using hN, by simp⟩
  have r4 : byt zPt.Data := fun x hx => by cases hx
  unfold bareM
  repeat' (refine (show ∀ (c : Bool) (x y : GMsg), roomM N x → roomM N y → roomM N (bif c then x else y) from fun c x y hx hy => by cases c <;> assumption) _ _ _ ?_ ?_)
  all_goals exact ⟨by first | exact h1 | exact r1, by first | exact h2 | exact r2, by first | exact h3 | exact r3, by first | exact h4 | exact r4⟩
theorem checkG_eq (hN : 20 ≤ N) {m : GMsg} (hk : kindM m) (hops : m.Ops.length + 20 ≤ N) (hl : m.Ops.length ≤ 9223372036854775807) : Grecord_CheckMsg N m = some (.inl ⟨(decide (MayAd m.From) && decide (MayAd m.To)) && spM m, m, bareM m⟩) := by
  have ha := fun a b => mayAddr_eq hN a b
  have hs1 := fun a => siteL (N := N) (l := [a]) (by simp; omega) (by simp)
  have hop := mayOps_eq (N := N) (l := m.Ops) (by omega) hl
  have hep := fun x => mayEpoch_eq (N := N) (by omega) x
  have hpt := fun x => mayPart_eq (N := N) (by omega) x
  have hk' := kind15 hk
  obtain ⟨kd, a2, a3, a4, a5, a6, a7, a8, a9, a10, a11, a12, a13, a14⟩ := m
  simp only at hk' hop
  rcases hk' with rfl | rfl | rfl | rfl | rfl | rfl | rfl | rfl | rfl | rfl | rfl | rfl | rfl | rfl | rfl
  · have hz : Grecord_CheckMsg N (⟨1, a2, a3, a4, a5, a6, a7, a8, a9, a10, a11, a12, a13, a14⟩ : GMsg) = ((Frecord_mayAddr N [a2, a3]).bind fun r1 => some (.inl ⟨r1, (⟨1, a2, a3, a4, a5, a6, a7, a8, a9, a10, a11, a12, a13, a14⟩ : GMsg), bareM (⟨1, a2, a3, a4, a5, a6, a7, a8, a9, a10, a11, a12, a13, a14⟩ : GMsg)⟩)) := rfl
    rw [hz, ha, Option.bind_some]
    rw [show spM (⟨1, a2, a3, a4, a5, a6, a7, a8, a9, a10, a11, a12, a13, a14⟩ : GMsg) = true from rfl]
    rw [Bool.and_true]
  · have hz : Grecord_CheckMsg N (⟨2, a2, a3, a4, a5, a6, a7, a8, a9, a10, a11, a12, a13, a14⟩ : GMsg) = ((Frecord_mayAddr N [a2, a3]).bind fun r1 => some (.inl ⟨r1, (⟨2, a2, a3, a4, a5, a6, a7, a8, a9, a10, a11, a12, a13, a14⟩ : GMsg), bareM (⟨2, a2, a3, a4, a5, a6, a7, a8, a9, a10, a11, a12, a13, a14⟩ : GMsg)⟩)) := rfl
    rw [hz, ha, Option.bind_some]
    rw [show spM (⟨2, a2, a3, a4, a5, a6, a7, a8, a9, a10, a11, a12, a13, a14⟩ : GMsg) = true from rfl]
    rw [Bool.and_true]
  · have hz : Grecord_CheckMsg N (⟨3, a2, a3, a4, a5, a6, a7, a8, a9, a10, a11, a12, a13, a14⟩ : GMsg) = ((Frecord_mayAddr N [a2, a3]).bind fun r1 => some (.inl ⟨(r1 && ((a6.length : Int) == 1)), (⟨3, a2, a3, a4, a5, a6, a7, a8, a9, a10, a11, a12, a13, a14⟩ : GMsg), bareM (⟨3, a2, a3, a4, a5, a6, a7, a8, a9, a10, a11, a12, a13, a14⟩ : GMsg)⟩)) := rfl
    rw [hz, ha, Option.bind_some]
    rw [show spM (⟨3, a2, a3, a4, a5, a6, a7, a8, a9, a10, a11, a12, a13, a14⟩ : GMsg) = ((a6.length : Int) == 1) from rfl]
  · have hz : Grecord_CheckMsg N (⟨4, a2, a3, a4, a5, a6, a7, a8, a9, a10, a11, a12, a13, a14⟩ : GMsg) = ((Frecord_mayAddr N [a2, a3]).bind fun r1 => some (.inl ⟨r1, (⟨4, a2, a3, a4, a5, a6, a7, a8, a9, a10, a11, a12, a13, a14⟩ : GMsg), bareM (⟨4, a2, a3, a4, a5, a6, a7, a8, a9, a10, a11, a12, a13, a14⟩ : GMsg)⟩)) := rfl
    rw [hz, ha, Option.bind_some]
    rw [show spM (⟨4, a2, a3, a4, a5, a6, a7, a8, a9, a10, a11, a12, a13, a14⟩ : GMsg) = true from rfl]
    rw [Bool.and_true]
  · have hz : Grecord_CheckMsg N (⟨5, a2, a3, a4, a5, a6, a7, a8, a9, a10, a11, a12, a13, a14⟩ : GMsg) = ((Frecord_mayAddr N [a2, a3]).bind fun r1 => some (.inl ⟨r1, (⟨5, a2, a3, a4, a5, a6, a7, a8, a9, a10, a11, a12, a13, a14⟩ : GMsg), bareM (⟨5, a2, a3, a4, a5, a6, a7, a8, a9, a10, a11, a12, a13, a14⟩ : GMsg)⟩)) := rfl
    rw [hz, ha, Option.bind_some]
    rw [show spM (⟨5, a2, a3, a4, a5, a6, a7, a8, a9, a10, a11, a12, a13, a14⟩ : GMsg) = true from rfl]
    rw [Bool.and_true]
  · have hz : Grecord_CheckMsg N (⟨6, a2, a3, a4, a5, a6, a7, a8, a9, a10, a11, a12, a13, a14⟩ : GMsg) = ((Frecord_mayAddr N [a2, a3]).bind fun r1 => some (.inl ⟨(r1 && (decide (1 ≤ (a6.length : Int)))), (⟨6, a2, a3, a4, a5, a6, a7, a8, a9, a10, a11, a12, a13, a14⟩ : GMsg), bareM (⟨6, a2, a3, a4, a5, a6, a7, a8, a9, a10, a11, a12, a13, a14⟩ : GMsg)⟩)) := rfl
    rw [hz, ha, Option.bind_some]
    rw [show spM (⟨6, a2, a3, a4, a5, a6, a7, a8, a9, a10, a11, a12, a13, a14⟩ : GMsg) = decide (1 ≤ (a6.length : Int)) from rfl]
  · have hz : Grecord_CheckMsg N (⟨7, a2, a3, a4, a5, a6, a7, a8, a9, a10, a11, a12, a13, a14⟩ : GMsg) = ((Frecord_mayAddr N [a2, a3]).bind fun r1 => some (.inl ⟨r1, (⟨7, a2, a3, a4, a5, a6, a7, a8, a9, a10, a11, a12, a13, a14⟩ : GMsg), bareM (⟨7, a2, a3, a4, a5, a6, a7, a8, a9, a10, a11, a12, a13, a14⟩ : GMsg)⟩)) := rfl
    rw [hz, ha, Option.bind_some]
    rw [show spM (⟨7, a2, a3, a4, a5, a6, a7, a8, a9, a10, a11, a12, a13, a14⟩ : GMsg) = true from rfl]
    rw [Bool.and_true]
  · have hz : Grecord_CheckMsg N (⟨8, a2, a3, a4, a5, a6, a7, a8, a9, a10, a11, a12, a13, a14⟩ : GMsg) = ((Frecord_mayAddr N [a2, a3]).bind fun r1 => some (.inl ⟨r1, (⟨8, a2, a3, a4, a5, a6, a7, a8, a9, a10, a11, a12, a13, a14⟩ : GMsg), bareM (⟨8, a2, a3, a4, a5, a6, a7, a8, a9, a10, a11, a12, a13, a14⟩ : GMsg)⟩)) := rfl
    rw [hz, ha, Option.bind_some]
    rw [show spM (⟨8, a2, a3, a4, a5, a6, a7, a8, a9, a10, a11, a12, a13, a14⟩ : GMsg) = true from rfl]
    rw [Bool.and_true]
  · have hz : Grecord_CheckMsg N (⟨9, a2, a3, a4, a5, a6, a7, a8, a9, a10, a11, a12, a13, a14⟩ : GMsg) = ((Frecord_mayAddr N [a2, a3]).bind fun r1 => some (.inl ⟨r1, (⟨9, a2, a3, a4, a5, a6, a7, a8, a9, a10, a11, a12, a13, a14⟩ : GMsg), bareM (⟨9, a2, a3, a4, a5, a6, a7, a8, a9, a10, a11, a12, a13, a14⟩ : GMsg)⟩)) := rfl
    rw [hz, ha, Option.bind_some]
    rw [show spM (⟨9, a2, a3, a4, a5, a6, a7, a8, a9, a10, a11, a12, a13, a14⟩ : GMsg) = true from rfl]
    rw [Bool.and_true]
  · have hz : Grecord_CheckMsg N (⟨10, a2, a3, a4, a5, a6, a7, a8, a9, a10, a11, a12, a13, a14⟩ : GMsg) = ((Frecord_mayAddr N [a2, a3]).bind fun r1 => some (.inl ⟨r1, (⟨10, a2, a3, a4, a5, a6, a7, a8, a9, a10, a11, a12, a13, a14⟩ : GMsg), bareM (⟨10, a2, a3, a4, a5, a6, a7, a8, a9, a10, a11, a12, a13, a14⟩ : GMsg)⟩)) := rfl
    rw [hz, ha, Option.bind_some]
    rw [show spM (⟨10, a2, a3, a4, a5, a6, a7, a8, a9, a10, a11, a12, a13, a14⟩ : GMsg) = true from rfl]
    rw [Bool.and_true]
  · have hz : Grecord_CheckMsg N (⟨11, a2, a3, a4, a5, a6, a7, a8, a9, a10, a11, a12, a13, a14⟩ : GMsg) = ((Frecord_mayAddr N [a2, a3]).bind fun r1 => ((bif r1 then Frecord_site N [a11] else some default).bind fun r2 => ((bif (r1 && r2) then Frecord_mayOps N a12 1 else some default).bind fun r3 => some (.inl ⟨((r1 && r2) && r3), (⟨11, a2, a3, a4, a5, a6, a7, a8, a9, a10, a11, a12, a13, a14⟩ : GMsg), bareM (⟨11, a2, a3, a4, a5, a6, a7, a8, a9, a10, a11, a12, a13, a14⟩ : GMsg)⟩)))) := rfl
    rw [hz, ha, Option.bind_some]
    rw [show spM (⟨11, a2, a3, a4, a5, a6, a7, a8, a9, a10, a11, a12, a13, a14⟩ : GMsg) = (decide (sit a11) && decide (MayOps a12)) from rfl]
    simp only [hs1, hop, hep, hpt, bif_some, Option.bind_some, and_bif, List.all_cons, List.all_nil, Bool.and_true]
    rw [Bool.and_assoc]
  · have hz : Grecord_CheckMsg N (⟨12, a2, a3, a4, a5, a6, a7, a8, a9, a10, a11, a12, a13, a14⟩ : GMsg) = ((Frecord_mayAddr N [a2, a3]).bind fun r1 => ((bif r1 then Frecord_mayEpoch N a13 else some default).bind fun r4 => some (.inl ⟨(r1 && r4), (⟨12, a2, a3, a4, a5, a6, a7, a8, a9, a10, a11, a12, a13, a14⟩ : GMsg), bareM (⟨12, a2, a3, a4, a5, a6, a7, a8, a9, a10, a11, a12, a13, a14⟩ : GMsg)⟩))) := rfl
    rw [hz, ha, Option.bind_some]
    rw [show spM (⟨12, a2, a3, a4, a5, a6, a7, a8, a9, a10, a11, a12, a13, a14⟩ : GMsg) = decide (MayEp a13) from rfl]
    simp only [hs1, hop, hep, hpt, bif_some, Option.bind_some, and_bif, List.all_cons, List.all_nil, Bool.and_true]
  · have hz : Grecord_CheckMsg N (⟨13, a2, a3, a4, a5, a6, a7, a8, a9, a10, a11, a12, a13, a14⟩ : GMsg) = ((Frecord_mayAddr N [a2, a3]).bind fun r1 => ((bif r1 then Frecord_mayPart N a14 else some default).bind fun r5 => some (.inl ⟨(r1 && r5), (⟨13, a2, a3, a4, a5, a6, a7, a8, a9, a10, a11, a12, a13, a14⟩ : GMsg), bareM (⟨13, a2, a3, a4, a5, a6, a7, a8, a9, a10, a11, a12, a13, a14⟩ : GMsg)⟩))) := rfl
    rw [hz, ha, Option.bind_some]
    rw [show spM (⟨13, a2, a3, a4, a5, a6, a7, a8, a9, a10, a11, a12, a13, a14⟩ : GMsg) = decide (MayPt a14) from rfl]
    simp only [hs1, hop, hep, hpt, bif_some, Option.bind_some, and_bif, List.all_cons, List.all_nil, Bool.and_true]
  · have hz : Grecord_CheckMsg N (⟨14, a2, a3, a4, a5, a6, a7, a8, a9, a10, a11, a12, a13, a14⟩ : GMsg) = ((Frecord_mayAddr N [a2, a3]).bind fun r1 => some (.inl ⟨r1, (⟨14, a2, a3, a4, a5, a6, a7, a8, a9, a10, a11, a12, a13, a14⟩ : GMsg), bareM (⟨14, a2, a3, a4, a5, a6, a7, a8, a9, a10, a11, a12, a13, a14⟩ : GMsg)⟩)) := rfl
    rw [hz, ha, Option.bind_some]
    rw [show spM (⟨14, a2, a3, a4, a5, a6, a7, a8, a9, a10, a11, a12, a13, a14⟩ : GMsg) = true from rfl]
    rw [Bool.and_true]
  · have hz : Grecord_CheckMsg N (⟨15, a2, a3, a4, a5, a6, a7, a8, a9, a10, a11, a12, a13, a14⟩ : GMsg) = ((Frecord_mayAddr N [a2, a3]).bind fun r1 => ((bif r1 then Frecord_mayPart N a14 else some default).bind fun r5 => some (.inl ⟨(r1 && r5), (⟨15, a2, a3, a4, a5, a6, a7, a8, a9, a10, a11, a12, a13, a14⟩ : GMsg), bareM (⟨15, a2, a3, a4, a5, a6, a7, a8, a9, a10, a11, a12, a13, a14⟩ : GMsg)⟩))) := rfl
    rw [hz, ha, Option.bind_some]
    rw [show spM (⟨15, a2, a3, a4, a5, a6, a7, a8, a9, a10, a11, a12, a13, a14⟩ : GMsg) = decide (MayPt a14) from rfl]
    simp only [hs1, hop, hep, hpt, bif_some, Option.bind_some, and_bif, List.all_cons, List.all_nil, Bool.and_true]
theorem checkG_not (hN : 20 ≤ N) {m : GMsg} (hk : ¬ kindM m) : ∃ b, Grecord_CheckMsg N m = some (.inl ⟨false, m, b⟩) := by
  have hne : ∀ k : Int, 1 ≤ k → k ≤ 15 → (m.Kind == k) = false := fun k h0 h8 => by
    refine beq_eq_false_iff_ne.2 fun h => hk ?_
    unfold kindM; omega
  unfold Grecord_CheckMsg
  rw [mayAddr_eq hN, Option.bind_some, hne 1 (by decide) (by decide), hne 2 (by decide) (by decide), hne 3 (by decide) (by decide), hne 4 (by decide) (by decide), hne 5 (by decide) (by decide), hne 6 (by decide) (by decide), hne 7 (by decide) (by decide), hne 8 (by decide) (by decide), hne 9 (by decide) (by decide), hne 10 (by decide) (by decide), hne 11 (by decide) (by decide), hne 12 (by decide) (by decide), hne 13 (by decide) (by decide), hne 14 (by decide) (by decide), hne 15 (by decide) (by decide)]
  exact ⟨_, rfl⟩
theorem sp_eq {m : GMsg} (hk : kindM m) (h : m = bareM m) : ((spM m && mayLst m.List_ 0 4096) && mayEn m.Entry) = sp2 m := by
  have hL := congrArg GMsg.List_ h
  have hE := congrArg GMsg.Entry h
  have hk' := kind15 hk
  obtain ⟨kd, a2, a3, a4, a5, a6, a7, a8, a9, a10, a11, a12, a13, a14⟩ := m
  simp only at hk'
  rcases hk' with rfl | rfl | rfl | rfl | rfl | rfl | rfl | rfl | rfl | rfl | rfl | rfl | rfl | rfl | rfl
  · replace hL : a6 = [] := hL
    replace hE : a7 = zEn := hE
    rw [hE, hL]
    show ((true && true) && mayEn zEn) = true
    rw [mayEn_z, Bool.and_true, Bool.and_true]
  · replace hL : a6 = a6 := hL
    replace hE : a7 = zEn := hE
    rw [hE]
    show ((true && mayLst a6 0 4096) && mayEn zEn) = mayLst a6 0 4096
    rw [mayEn_z, Bool.and_true]
    rfl
  · replace hL : a6 = a6 := hL
    replace hE : a7 = zEn := hE
    rw [hE]
    show ((((a6.length : Int) == 1) && mayLst a6 0 4096) && mayEn zEn) = mayLst a6 1 1
    rw [mayEn_z, Bool.and_true]
    unfold mayLst
    cases a6.all maySl with
    | false => simp
    | true => rw [Bool.eq_iff_iff]; simp <;> omega
  · replace hL : a6 = [] := hL
    replace hE : a7 = zEn := hE
    rw [hE, hL]
    show ((true && true) && mayEn zEn) = true
    rw [mayEn_z, Bool.and_true, Bool.and_true]
  · replace hL : a6 = [] := hL
    replace hE : a7 = zEn := hE
    rw [hE, hL]
    show ((true && true) && mayEn zEn) = true
    rw [mayEn_z, Bool.and_true, Bool.and_true]
  · replace hL : a6 = a6 := hL
    replace hE : a7 = zEn := hE
    rw [hE]
    show ((decide (1 ≤ (a6.length : Int)) && mayLst a6 0 4096) && mayEn zEn) = mayLst a6 1 4096
    rw [mayEn_z, Bool.and_true]
    unfold mayLst
    cases a6.all maySl with
    | false => simp
    | true => rw [Bool.eq_iff_iff]; simp <;> omega
  · replace hL : a6 = [] := hL
    replace hE : a7 = zEn := hE
    rw [hE, hL]
    show ((true && true) && mayEn zEn) = true
    rw [mayEn_z, Bool.and_true, Bool.and_true]
  · replace hL : a6 = [] := hL
    replace hE : a7 = zEn := hE
    rw [hE, hL]
    show ((true && true) && mayEn zEn) = true
    rw [mayEn_z, Bool.and_true, Bool.and_true]
  · replace hL : a6 = [] := hL
    replace hE : a7 = a7 := hE
    subst hL
    show ((true && true) && mayEn a7) = mayEn a7
    rfl
  · replace hL : a6 = [] := hL
    replace hE : a7 = zEn := hE
    rw [hE, hL]
    show ((true && true) && mayEn zEn) = true
    rw [mayEn_z, Bool.and_true, Bool.and_true]
  · replace hL : a6 = [] := hL
    replace hE : a7 = zEn := hE
    rw [hE, hL]
    show (((decide (sit a11) && decide (MayOps a12)) && true) && mayEn zEn) = (decide (sit a11) && decide (MayOps a12))
    rw [mayEn_z, Bool.and_true, Bool.and_true]
  · replace hL : a6 = [] := hL
    replace hE : a7 = zEn := hE
    rw [hE, hL]
    show ((decide (MayEp a13) && true) && mayEn zEn) = decide (MayEp a13)
    rw [mayEn_z, Bool.and_true, Bool.and_true]
  · replace hL : a6 = [] := hL
    replace hE : a7 = zEn := hE
    rw [hE, hL]
    show ((decide (MayPt a14) && true) && mayEn zEn) = decide (MayPt a14)
    rw [mayEn_z, Bool.and_true, Bool.and_true]
  · replace hL : a6 = [] := hL
    replace hE : a7 = zEn := hE
    rw [hE, hL]
    show ((true && true) && mayEn zEn) = true
    rw [mayEn_z, Bool.and_true, Bool.and_true]
  · replace hL : a6 = [] := hL
    replace hE : a7 = zEn := hE
    rw [hE, hL]
    show ((decide (MayPt a14) && true) && mayEn zEn) = decide (MayPt a14)
    rw [mayEn_z, Bool.and_true, Bool.and_true]
theorem sameM_comm {a b : GMsg} (ha : bytM a) (hb : bytM b) : sameM a b = sameM b a := by
  rw [Bool.eq_iff_iff, sameM_iff ha hb, sameM_iff hb ha]; exact eq_comm
theorem checkMsg_eq (hN : 20 ≤ N) {m : GMsg} (h : roomM N m) : Frecord_CheckMsg N m = some (bif mayM m then 0 else 40) := by
  unfold Frecord_CheckMsg
  by_cases hk : kindM m
  · have hr := roomM_bare h hN
    rw [checkG_eq hN hk h.2.2.1.1 h.2.2.1.2, Option.bind_some]
    show Hrecord_CheckMsg N m _ = _
    rw [checkH_eq hN hr]
    unfold mayM
    rw [decide_eq_true hk, sameM_comm (b := bareM m) h.byt hr.byt]
    cases hs : sameM (bareM m) m with
    | false => simp
    | true =>
      have he : m = bareM m := ((sameM_iff hr.byt h.byt).1 hs).symm
      rw [← he, ← sp_eq hk he]
      generalize (decide (MayAd m.From) && decide (MayAd m.To)) = p1
      generalize spM m = p2
      generalize numM m = p3
      generalize mayLst m.List_ 0 4096 = p4
      generalize mayEn m.Entry = p5
      cases p1 <;> cases p2 <;> cases p3 <;> cases p4 <;> cases p5 <;> rfl
  · obtain ⟨b, hb⟩ := checkG_not hN hk
    rw [hb, Option.bind_some]
    unfold mayM
    rw [decide_eq_false hk]
    rfl
end
def sizeM (m : GMsg) : Nat := m.List_.length + (m.List_.map fun x => x.Entry.Ops.length).sum + m.Entry.Ops.length + m.Ops.length
theorem room_entry {N : Nat} {e : GEntry} (h : wf53 e) (hN : e.Ops.length + 60 ≤ N) : e.Ops.length + 20 ≤ N ∧ e.Ops.length ≤ 9223372036854775807 ∧ byt e.Part.Data := by
  obtain ⟨_, _, _, _, _, _, h7, _, _, _, _, h12, _⟩ := h
  exact ⟨by omega, h7.1, h12.2.2.2.1.2⟩
theorem mem_sum {α : Type} (f : α → Nat) : ∀ {l : List α} {x : α}, x ∈ l → f x ≤ (l.map f).sum
  | y :: l, x, h => by
    rcases List.mem_cons.1 h with rfl | h
    · simp
    · have := mem_sum f h; simp only [List.map_cons, List.sum_cons]; omega
theorem roomM_of {N : Nat} {m : GMsg} (h : wf55 m) (hN : sizeM m + 60 ≤ N) : roomM N m := by
  obtain ⟨_, _, _, _, _, h6, h7, _, _, _, _, h12, _, h14, _⟩ := h
  unfold sizeM at hN
  refine ⟨⟨by omega, h6.1, fun x hx => room_entry (h6.2 x hx).2.2.1 ?_⟩, room_entry h7 (by omega), ⟨by omega, h12.1⟩, h14.2.2.2.1.2⟩
  have := mem_sum (fun x : GSlotted => x.Entry.Ops.length) hx
  omega
section
variable {N : Nat}
theorem cloneOps_eq {l : List GOp} (h : l.length ≤ 1048576) : Fslices_Clone_Op N l = some l := by
  unfold Fslices_Clone_Op Fslices_Clone_Op_367
  rw [lenB_of (by omega)]; rfl
theorem cloneSl_eq {l : List GSlotted} (h : l.length ≤ 1048576) : Fslices_Clone_Slotted_560 N l = some (l.length, l) := by
  unfold Fslices_Clone_Slotted_560 Fslices_Clone_Slotted_439
  rw [lenB_of (by omega)]; rfl
theorem cloneEntry_eq {e : GEntry} (h : e.Ops.length ≤ 1048576) (hb : e.Part.Data.length ≤ 1048576) : Frecord_CloneEntry N e = some e := by
  unfold Frecord_CloneEntry
  rw [cloneOps_eq h, Option.bind_some, F43_eq (by omega), Option.bind_some]
theorem set_getD {α : Type} (d : α) : ∀ (l : List α) (i : Nat), i < l.length → l.set i (l.getD i d) = l
  | [], i, h => by simp at h
  | x :: l, 0, h => by simp
  | x :: l, i + 1, h => by
    simp only [List.set_cons_succ, List.getD_cons_succ, set_getD d l i (by simpa using h)]
def smallM (m : GMsg) : Prop := (m.List_.length ≤ 1048576 ∧ ∀ x ∈ m.List_, x.Entry.Ops.length ≤ 1048576 ∧ x.Entry.Part.Data.length ≤ 1048576) ∧ (m.Entry.Ops.length ≤ 1048576 ∧ m.Entry.Part.Data.length ≤ 1048576) ∧ m.Ops.length ≤ 1048576 ∧ m.Part.Data.length ≤ 1048576
theorem sameM_self {m : GMsg} (h : bytM m) : sameM m m = true := (sameM_iff h h).2 rfl
end
theorem bulk28_len (l : List GOp) : l.length + 1 ≤ bulk28 l := by
  unfold bulk28
  have := len_le_sum' (f := bulk43) (fun x => by unfold bulk43; omega) l
  omega
theorem bulk49_len (l : List Int) : l.length + 1 ≤ bulk49 l := by
  unfold bulk49
  have := len_le_sum' (f := bulk5) (fun x => by unfold bulk5; omega) l
  omega
theorem bulk53_small (e : GEntry) : e.Ops.length + e.Part.Data.length + 1 ≤ bulk53 e := by
  have h1 := bulk28_len e.Ops
  have h2 := bulk49_len e.Part.Data
  unfold bulk53 bulk51
  omega
theorem bulk48_mem {l : List GSlotted} {x : GSlotted} (h : x ∈ l) : l.length + 1 ≤ bulk48 l ∧ bulk53 x.Entry ≤ bulk48 l := by
  unfold bulk48
  have h1 := len_le_sum' (f := bulk101) (fun x => by unfold bulk101; omega) l
  have h2 := mem_sum bulk101 h
  have h3 : bulk53 x.Entry ≤ bulk101 x := by unfold bulk101; omega
  omega
theorem bulk48_len (l : List GSlotted) : l.length + 1 ≤ bulk48 l := by
  unfold bulk48
  have h1 := len_le_sum' (f := bulk101) (fun x => by unfold bulk101; omega) l
  omega
theorem smallM_of {m : GMsg} (h : bulk55 m ≤ 1048576) : smallM m := by
  have h1 : bulk48 m.List_ ≤ bulk55 m ∧ bulk53 m.Entry ≤ bulk55 m ∧ bulk28 m.Ops ≤ bulk55 m ∧ bulk51 m.Part ≤ bulk55 m := by
    unfold bulk55; omega
  have h2 : bulk49 m.Part.Data ≤ bulk51 m.Part := by unfold bulk51; omega
  have h3 := bulk48_len m.List_
  have h4 := bulk53_small m.Entry
  have h5 := bulk28_len m.Ops
  have h6 := bulk49_len m.Part.Data
  refine ⟨⟨by omega, fun x hx => ?_⟩, ⟨by omega, by omega⟩, by omega, by omega⟩
  have h7 := bulk48_mem hx
  have h8 := bulk53_small x.Entry
  constructor <;> omega
end Go.Proofs.Ytekpjhhbmjcbmaa
