/-
The sum of bytes: what the program's and the document's functions compute.
-/
import Derived.Test.YticlnhhaaidmaaaFa
import Derived.Test.YticlnhhaaidmaaaTvT
import Derived.Laws.BitsAllLaws
set_option linter.unusedVariables false
set_option linter.unusedSimpArgs false
namespace Go.Proofs.Yticlnhhaaidmaaa
open Go Go.Ev

def R32 (s : Int) : Prop := 0 ≤ s ∧ s < 4294967296
theorem xor32_range {a b : Int} (ha : R32 a) (hb : R32 b) : R32 (bits .xor .u32 a b) := by
  rw [u32_xor a b ha.1 ha.2 hb.1 hb.2]
  have h1 := ha.1; have h2 := ha.2; have h3 := hb.1; have h4 := hb.2
  have := Nat.xor_lt_two_pow (x := a.toNat) (y := b.toNat) (n := 32) (by omega) (by omega)
  exact ⟨by omega, by omega⟩
theorem and32_one {s : Int} (h : R32 s) : bits .and .u32 s 1 = s % 2 := by
  rw [u32_and s 1 h.1 h.2 (by decide) (by decide)]
  have : (1 : Int).toNat = 1 := rfl
  rw [this, nat_mask1]
  have := h.1
  omega
theorem shr32_one (s : Int) : shr .u32 s 1 = s / 2 := by
  simp only [shr, IntKind.bits]
  rw [show (min (1 : Int).toNat 32) = 1 from rfl, Int.fdiv_eq_ediv_of_nonneg _ (by decide)]
  rfl

def stepc (s : Int) : Int := if s % 2 = 1 then bits .xor .u32 (s / 2) 3988292384 else s / 2
theorem stepc_range {s : Int} (h : R32 s) : R32 (stepc s) := by
  have h1 := h.1; have h2 := h.2
  have hd : R32 (s / 2) := ⟨by omega, by omega⟩
  unfold stepc; split
  · exact xor32_range hd ⟨by decide, by decide⟩
  · exact hd
def stepn : Nat → Int → Int
  | 0, s => s
  | n + 1, s => stepn n (stepc s)
def updc (s b : Int) : Int := stepn 8 (bits .xor .u32 s b)
theorem stepn_range : ∀ (n : Nat) {s : Int}, R32 s → R32 (stepn n s)
  | 0, _, h => h
  | n + 1, _, h => stepn_range n (stepc_range h)
def byteR (b : Int) : Prop := 0 ≤ b ∧ b ≤ 255
theorem updc_range {s b : Int} (h : R32 s) (hb : byteR b) : R32 (updc s b) := stepn_range 8 (xor32_range h ⟨hb.1, by have := hb.2; omega⟩)
theorem fold_range : ∀ (l : List Int) {s : Int}, R32 s → (∀ b ∈ l, byteR b) → R32 (l.foldl updc s)
  | [], _, h, _ => h
  | b :: l, _, h, hb => fold_range l (updc_range h (hb b (by simp))) fun x hx => hb x (by simp [hx])

/-- The sum of all bytes. -/
def sumB (l : List Int) : Int := bits .xor .u32 IntKind.u32.max (l.foldl updc 4294967295)

theorem rounds14 {N : Nat} (hN : 8 < N) {X : Type} (k : Int → Option X) {s : Int} (hs : R32 s) : iter N (fun (s5 : S14x10) next6 =>
     (bif (decide (s5.t25 < 8)) then
     (bif ((bits .and .u32 s5.sum 1) == 1) then
     (next6 ⟨(bits .xor .u32 (shr .u32 s5.sum 1) 3988292384), (IntKind.i64.wrap (s5.t25 + 1))⟩)
     else
     (next6 ⟨(shr .u32 s5.sum 1), (IntKind.i64.wrap (s5.t25 + 1))⟩))
     else (k s5.sum))) ⟨s, 0⟩ = k (stepn 8 s) := by
  refine iter_run (fun q : S14x10 => 0 ≤ q.t25 ∧ q.t25 ≤ 8 ∧ R32 q.sum ∧ stepn (8 - q.t25).toNat q.sum = stepn 8 s) (fun q => (8 - q.t25).toNat) ?_ N _ ⟨by simp, by simp, hs, rfl⟩ (by simp; omega)
  rintro ⟨q, i⟩ nx ⟨h0, h8, hr, hq⟩ ih
  simp only at h0 h8 hr hq ih ⊢
  by_cases hi : i < 8
  · simp only [decide_eq_true hi, cond_true, and32_one hr, shr32_one]
    rw [wrap64 (by omega) (by omega)]
    have hstep : stepn (8 - (i + 1)).toNat (stepc q) = stepn 8 s := by
      rw [← hq]
      have : (8 - i).toNat = (8 - (i + 1)).toNat + 1 := by omega
      rw [this]; rfl
    have hres := ih ⟨stepc q, i + 1⟩ ⟨by simp; omega, by simp; omega, stepc_range hr, hstep⟩ (by simp; omega)
    rw [← hres]
    unfold stepc
    by_cases h1 : q % 2 = 1
    · have : (q % 2 == 1) = true := by simpa using h1
      rw [this, if_pos h1]; rfl
    · have : (q % 2 == 1) = false := by simpa using h1
      rw [this, if_neg h1]; rfl
  · have : decide (i < 8) = false := by simpa using hi
    simp only [this, cond_false]
    have : (8 - i).toNat = 0 := by omega
    rw [this] at hq
    rw [← hq]; rfl
theorem rounds15 {N : Nat} (hN : 8 < N) {X : Type} (k : Int → Option X) {s : Int} (hs : R32 s) : iter N (fun (s3 : S15x7) next4 =>
     (bif (decide (s3.k < 8)) then
     (bif ((Int.tmod s3.sum 2) == 1) then
     (next4 ⟨(bits .xor .u32 (IntKind.u32.wrap (Int.tdiv s3.sum 2)) 3988292384), (IntKind.i64.wrap (s3.k + 1))⟩)
     else
     (next4 ⟨(IntKind.u32.wrap (Int.tdiv s3.sum 2)), (IntKind.i64.wrap (s3.k + 1))⟩))
     else (k s3.sum))) ⟨s, 0⟩ = k (stepn 8 s) := by
  refine iter_run (fun q : S15x7 => 0 ≤ q.k ∧ q.k ≤ 8 ∧ R32 q.sum ∧ stepn (8 - q.k).toNat q.sum = stepn 8 s) (fun q => (8 - q.k).toNat) ?_ N _ ⟨by simp, by simp, hs, rfl⟩ (by simp; omega)
  rintro ⟨q, i⟩ nx ⟨h0, h8, hr, hq⟩ ih
  simp only at h0 h8 hr hq ih ⊢
  have hr1 := hr.1; have hr2 := hr.2
  by_cases hi : i < 8
  · simp only [decide_eq_true hi, cond_true, Int.tmod_eq_emod_of_nonneg hr1, Int.tdiv_eq_ediv_of_nonneg hr1]
    rw [wrap64 (by omega) (by omega), wrapU32 (by omega) (by omega)]
    have hstep : stepn (8 - (i + 1)).toNat (stepc q) = stepn 8 s := by
      rw [← hq]
      have : (8 - i).toNat = (8 - (i + 1)).toNat + 1 := by omega
      rw [this]; rfl
    have hres := ih ⟨stepc q, i + 1⟩ ⟨by simp; omega, by simp; omega, stepc_range hr, hstep⟩ (by simp; omega)
    rw [← hres]
    unfold stepc
    by_cases h1 : q % 2 = 1
    · have : (q % 2 == 1) = true := by simpa using h1
      rw [this, if_pos h1]; rfl
    · have : (q % 2 == 1) = false := by simpa using h1
      rw [this, if_neg h1]; rfl
  · have : decide (i < 8) = false := by simpa using hi
    simp only [this, cond_false]
    have : (8 - i).toNat = 0 := by omega
    rw [this] at hq
    rw [← hq]; rfl

theorem bytes14 {N : Nat} (hN : 8 < N) {X : Type} (k : Int → Option X) {l : List Int} (hl : l.length < N) (hmax : l.length ≤ 9223372036854775807) (hb : ∀ b ∈ l, byteR b) {s : Int} (hs : R32 s) :
    iter N (fun (s3 : S14x6) next4 =>
     (bif (decide (s3.t17 < ((l).length : Int))) then
     (bif (ibB s3.t17 ((l).length : Int)) then
     (iter N (fun (s5 : S14x10) next6 =>
     (bif (decide (s5.t25 < 8)) then
     (bif ((bits .and .u32 s5.sum 1) == 1) then
     (next6 ⟨(bits .xor .u32 (shr .u32 s5.sum 1) 3988292384), (IntKind.i64.wrap (s5.t25 + 1))⟩)
     else
     (next6 ⟨(shr .u32 s5.sum 1), (IntKind.i64.wrap (s5.t25 + 1))⟩))
     else
     (next4 ⟨s5.sum, (IntKind.i64.wrap (s3.t17 + 1))⟩))) ⟨(bits .xor .u32 s3.sum (IntKind.u32.wrap (lget l s3.t17 default))), 0⟩)
     else none)
     else (k s3.sum))) ⟨s, 0⟩ = k (l.foldl updc s) := by
  refine iter_run (fun q : S14x6 => 0 ≤ q.t17 ∧ q.t17 ≤ (l.length : Int) ∧ R32 q.sum ∧ (l.drop q.t17.toNat).foldl updc q.sum = l.foldl updc s) (fun q => ((l.length : Int) - q.t17).toNat) ?_ N _ ⟨by simp, by simp, hs, by simp⟩ (by simp; omega)
  rintro ⟨q, i⟩ nx ⟨h0, h8, hr, hq⟩ ih
  simp only at h0 h8 hr hq ih ⊢
  by_cases hi : i < l.length
  · have hbi := hb _ (lget_mem (default : Int) h0 hi)
    simp only [decide_eq_true hi, cond_true, ibB_of h0 hi]
    rw [wrapU32 hbi.1 (by have := hbi.2; omega)]
    rw [rounds14 hN (fun t => nx ⟨t, IntKind.i64.wrap (i + 1)⟩) (xor32_range hr ⟨hbi.1, by have := hbi.2; omega⟩)]
    rw [wrap64 (by omega) (by omega)]
    refine ih ⟨updc q (lget l i default), i + 1⟩ ⟨by simp; omega, by simp; omega, updc_range hr hbi, ?_⟩ (by simp; omega)
    rw [← hq, lget_drop (default : Int) h0 hi, List.foldl_cons]
  · have : decide (i < (l.length : Int)) = false := by simpa using hi
    simp only [this, cond_false]
    rw [List.drop_eq_nil_of_le (by omega)] at hq
    rw [← hq]; rfl
theorem F15_eq {N : Nat} {l : List Int} (hN : l.length + 9 ≤ N) (hmax : l.length ≤ 9223372036854775807) (hb : ∀ b ∈ l, byteR b) : F15 N l = some (sumB l) := by
  unfold F15
  refine iter_run (fun q : S15x3 => 0 ≤ q.i ∧ q.i ≤ (l.length : Int) ∧ R32 q.sum ∧ (l.drop q.i.toNat).foldl updc q.sum = l.foldl updc 4294967295) (fun q => ((l.length : Int) - q.i).toNat) ?_ N _ ⟨by simp, by simp, ⟨by decide, by decide⟩, by simp⟩ (by simp; omega)
  rintro ⟨q, i⟩ nx ⟨h0, h8, hr, hq⟩ ih
  simp only at h0 h8 hr hq ih ⊢
  by_cases hi : i < l.length
  · have hbi := hb _ (lget_mem (default : Int) h0 hi)
    simp only [decide_eq_true hi, cond_true, ibB_of h0 hi]
    rw [wrapU32 hbi.1 (by have := hbi.2; omega)]
    rw [rounds15 (by omega) (fun t => nx ⟨t, IntKind.i64.wrap (i + 1)⟩) (xor32_range hr ⟨hbi.1, by have := hbi.2; omega⟩)]
    rw [wrap64 (by omega) (by omega)]
    refine ih ⟨updc q (lget l i default), i + 1⟩ ⟨by simp; omega, by simp; omega, updc_range hr hbi, ?_⟩ (by simp; omega)
    rw [← hq, lget_drop (default : Int) h0 hi, List.foldl_cons]
  · have : decide (i < (l.length : Int)) = false := by simpa using hi
    simp only [this, cond_false]
    rw [List.drop_eq_nil_of_le (by omega)] at hq
    rw [sumB, ← hq]; rfl
theorem F14_eq {N : Nat} {l : List (List Int)} (hN : l.length + 9 ≤ N) (hmax : l.length ≤ 9223372036854775807) (hb : ∀ m ∈ l, m.length + 9 ≤ N ∧ m.length ≤ 9223372036854775807 ∧ ∀ b ∈ m, byteR b) : F14 N l = some (sumB l.flatten) := by
  unfold F14
  refine iter_run (fun q : S14x3 => 0 ≤ q.t11 ∧ q.t11 ≤ (l.length : Int) ∧ R32 q.sum ∧ (l.drop q.t11.toNat).flatten.foldl updc q.sum = l.flatten.foldl updc 4294967295) (fun q => ((l.length : Int) - q.t11).toNat) ?_ N _ ⟨by simp, by simp, ⟨by decide, by decide⟩, by simp⟩ (by simp; omega)
  rintro ⟨q, i⟩ nx ⟨h0, h8, hr, hq⟩ ih
  simp only at h0 h8 hr hq ih ⊢
  by_cases hi : i < l.length
  · obtain ⟨m1, m2, m3⟩ := hb _ (lget_mem (default : List Int) h0 hi)
    simp only [decide_eq_true hi, cond_true, ibB_of h0 hi]
    rw [bytes14 (by omega) (fun t => nx ⟨t, IntKind.i64.wrap (i + 1)⟩) (by omega) m2 m3 hr]
    rw [wrap64 (by omega) (by omega)]
    refine ih ⟨_, i + 1⟩ ⟨by simp; omega, by simp; omega, fold_range _ hr m3, ?_⟩ (by simp; omega)
    rw [← hq, lget_drop (default : List Int) h0 hi, List.flatten_cons, List.foldl_append]
  · have : decide (i < (l.length : Int)) = false := by simpa using hi
    simp only [this, cond_false]
    rw [List.drop_eq_nil_of_le (by omega)] at hq
    rw [sumB, ← hq]; rfl
end Go.Proofs.Yticlnhhaaidmaaa
