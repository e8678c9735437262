/-
Reading an epoch's ints: what the program's and the document's readers read.
-/
import Derived.Test.YtjjnclgkppbpnaaqWc
set_option linter.unusedVariables false
set_option linter.unusedSimpArgs false
namespace Go.Proofs.Ytjjnclgkppbpnaa
open Go Go.Ev
def rd1 (s : Int × List Int) : Int × (Int × List Int) := if s.1 = 0 then ((rI s.2).1, ((rI s.2).2.1, (rI s.2).2.2)) else (0, s)
def rdv (g : Int → Int) (v0 : Vector Int 8) (s : Int × List Int) : Nat → (Int × List Int) × Vector Int 8
  | 0 => (s, v0)
  | k + 1 => ((rd1 (rdv g v0 s k).1).2, vset (rdv g v0 s k).2 k (g (rd1 (rdv g v0 s k).1).1))
def okR (B : List Int) (s : Int × List Int) : Prop := s.2 <:+ B
def z8 : Vector Int 8 := Vector.replicate 8 (default : Int)
def rdE (g : Int → Int) (s : Int × List Int) : GEpoch × (Int × List Int) :=
  (⟨(rd1 s).1, (rdv g z8 (rd1 s).2 8).2, (rdv id z8 (rdv g z8 (rd1 s).2 8).1 8).2, (rdv g z8 (rdv id z8 (rdv g z8 (rd1 s).2 8).1 8).1 8).2⟩,
    (rdv g z8 (rdv id z8 (rdv g z8 (rd1 s).2 8).1 8).1 8).1)
def sm (n : Int) : Int := if n = IntKind.i64.wrap (IntKind.i32.wrap n) then n else -2
theorem rd1_ok {B : List Int} {s : Int × List Int} (h : okR B s) : okR B (rd1 s).2 := by
  unfold rd1
  split
  · exact (rI_suffix s.2).trans h
  · exact h
theorem rdv_ok {B : List Int} {s : Int × List Int} (h : okR B s) (g : Int → Int) (v0 : Vector Int 8) : ∀ k, okR B (rdv g v0 s k).1
  | 0 => h
  | k + 1 => rd1_ok (rdv_ok h g v0 k)
theorem rdv_st (g g' : Int → Int) (v v' : Vector Int 8) (s : Int × List Int) : ∀ k, (rdv g v s k).1 = (rdv g' v' s k).1
  | 0 => rfl
  | k + 1 => by simp only [rdv, rdv_st g g' v v' s k]
theorem rdv_get (g : Int → Int) (v : Vector Int 8) (s : Int × List Int) : ∀ k, k ≤ 8 → ∀ j, j < 8 → vget (rdv g v s k).2 j default = if j < k then g (rd1 (rdv id z8 s j).1).1 else vget v j default
  | 0, _, j, _ => by simp [rdv]
  | k + 1, hk, j, hj => by
    simp only [rdv]
    rw [vget_set _ _ _ hj, rdv_get g v s k (by omega) j hj]
    by_cases h : k = j
    · subst h; rw [if_pos rfl, if_pos (by omega), rdv_st g id v z8 s k]
    · rw [if_neg h]
      by_cases h' : j < k
      · rw [if_pos h', if_pos (by omega)]
      · rw [if_neg h', if_neg (by omega)]
section
variable {N : Nat} {B : List Int} {s : Int × List Int}
def okB (B : List Int) : Prop := B.length ≤ 70368744177664 ∧ ∀ x ∈ B, byteR x
theorem okB_suf (hB : okB B) (h : okR B s) : s.2.length ≤ 70368744177664 ∧ ∀ x ∈ s.2, byteR x := suffix_ok h hB.1 hB.2
theorem int_eq (hN : 11 ≤ N) (hB : okB B) (h : okR B s) : Frecord_reader_int_407 N s.1 ⟨true, s.2⟩ = some ((rd1 s).1, (rd1 s).2.1, ⟨true, (rd1 s).2.2⟩) := by
  unfold Frecord_reader_int_407 rd1
  by_cases he : s.1 = 0
  · have : (s.1 == 0) = true := by simpa using he
    rw [this, if_pos he, F22_eq hN (okB_suf hB h).1 (okB_suf hB h).2]
    simp only [Bool.not_true, cond_false, Option.bind_some]
    unfold Frecord_reader_keep_bdf
    rw [this]; rfl
  · have : (s.1 == 0) = false := by simpa using he
    rw [this, if_neg he]; rfl
theorem small_eq' (hN : 11 ≤ N) (hB : okB B) (h : okR B s) : Frecord_reader_small_407 N s.1 ⟨true, s.2⟩ = some (sm (rd1 s).1, (rd1 s).2.1, ⟨true, (rd1 s).2.2⟩) := by
  unfold Frecord_reader_small_407 sm
  rw [int_eq hN hB h, Option.bind_some]
  by_cases hx : (rd1 s).1 = IntKind.i64.wrap (IntKind.i32.wrap (rd1 s).1)
  · rw [if_pos hx, show ((rd1 s).1 == IntKind.i64.wrap (IntKind.i32.wrap (rd1 s).1)) = true by simpa using hx]; rfl
  · rw [if_neg hx, show ((rd1 s).1 == IntKind.i64.wrap (IntKind.i32.wrap (rd1 s).1)) = false by simpa using hx]; rfl
theorem vector_eq (hN : 11 ≤ N) (hB : okB B) (h : okR B s) (a : Int) (b v d : Vector Int 8) : Frecord_reader_vector_6ca N s.1 ⟨a, b, v, d⟩ ⟨true, s.2⟩ =
    some ((rdv id v s 8).1.1, ⟨a, b, (rdv id v s 8).2, d⟩, ⟨true, (rdv id v s 8).1.2⟩) := by
  unfold Frecord_reader_vector_6ca
  rw [show (⟨0, s.1, ⟨a, b, v, d⟩, ⟨true, s.2⟩⟩ : Srecord_reader_vector_6cax1) = (fun k : Nat => (⟨(k : Int), (rdv id v s k).1.1, ⟨a, b, (rdv id v s k).2, d⟩, ⟨true, (rdv id v s k).1.2⟩⟩ : Srecord_reader_vector_6cax1)) 0 from rfl]
  rw [iter_path (fun k : Nat => (⟨(k : Int), (rdv id v s k).1.1, ⟨a, b, (rdv id v s k).2, d⟩, ⟨true, (rdv id v s k).1.2⟩⟩ : Srecord_reader_vector_6cax1)) 8 (fun _ => none) (some ((rdv id v s 8).1.1, ⟨a, b, (rdv id v s 8).2, d⟩, ⟨true, (rdv id v s 8).1.2⟩)) ?_ ?_ N (by omega)]
  · exact none_find _
  · intro k next hk
    simp only [natCast_lt8 hk, ibB_of (show (0 : Int) ≤ k by omega) (show (k : Int) < 8 by omega), cond_true]
    rw [int_eq hN hB (rdv_ok h id v k), Option.bind_some, wrap64 (by omega) (by omega), Int.toNat_natCast]
    rfl
  · intro next; rfl
theorem epoch_eq (hN : 11 ≤ N) (hB : okB B) (h : okR B s) : Frecord_reader_epoch_407 N s.1 ⟨true, s.2⟩ = some ((rdE sm s).1, (rdE sm s).2.1, ⟨true, (rdE sm s).2.2⟩) := by
  unfold Frecord_reader_epoch_407 Frecord_reader_ints_b1a
  rw [int_eq hN hB h]
  simp only [Option.bind_some]
  have h1 := rd1_ok h
  unfold rdE
  generalize (rd1 s).1 = a at *
  generalize hs1 : (rd1 s).2 = s1 at *
  rw [show (⟨0, s1.1, ⟨true, s1.2⟩, ⟨a, Vector.replicate 8 default, Vector.replicate 8 default, Vector.replicate 8 default⟩⟩ : Srecord_reader_epoch_407x4) = (fun k : Nat => (⟨(k : Int), (rdv sm z8 s1 k).1.1, ⟨true, (rdv sm z8 s1 k).1.2⟩, ⟨a, (rdv sm z8 s1 k).2, z8, z8⟩⟩ : Srecord_reader_epoch_407x4)) 0 from rfl]
  rw [iter_path (fun k : Nat => (⟨(k : Int), (rdv sm z8 s1 k).1.1, ⟨true, (rdv sm z8 s1 k).1.2⟩, ⟨a, (rdv sm z8 s1 k).2, z8, z8⟩⟩ : Srecord_reader_epoch_407x4)) 8 (fun _ => none) _ ?_ ?_ N (by omega)]
  · exact none_find _
  · intro k next hk
    simp only [natCast_lt8 hk, ibB_of (show (0 : Int) ≤ k by omega) (show (k : Int) < 8 by omega), cond_true]
    rw [small_eq' hN hB (rdv_ok h1 sm z8 k), Option.bind_some, wrap64 (by omega) (by omega), Int.toNat_natCast]
    rfl
  · intro next
    have h2 := rdv_ok h1 sm z8 8
    generalize rdv sm z8 s1 8 = p at *
    obtain ⟨s2, v1⟩ := p
    simp only at h2 ⊢
    rw [show decide (((8 : Nat) : Int) < 8) = false from rfl, cond_false, vector_eq hN hB h2, Option.bind_some]
    have h3 := rdv_ok h2 id z8 8
    generalize rdv id z8 s2 8 = p at *
    obtain ⟨s3, v2⟩ := p
    simp only at h3 ⊢
    rw [show (⟨0, s3.1, ⟨true, s3.2⟩, ⟨a, v1, v2, z8⟩⟩ : Srecord_reader_epoch_407x10) = (fun k : Nat => (⟨(k : Int), (rdv sm z8 s3 k).1.1, ⟨true, (rdv sm z8 s3 k).1.2⟩, ⟨a, v1, v2, (rdv sm z8 s3 k).2⟩⟩ : Srecord_reader_epoch_407x10)) 0 from rfl]
    rw [iter_path (fun k : Nat => (⟨(k : Int), (rdv sm z8 s3 k).1.1, ⟨true, (rdv sm z8 s3 k).1.2⟩, ⟨a, v1, v2, (rdv sm z8 s3 k).2⟩⟩ : Srecord_reader_epoch_407x10)) 8 (fun _ => none) (some ((⟨a, v1, v2, (rdv sm z8 s3 8).2⟩ : GEpoch), (rdv sm z8 s3 8).1.1, ⟨true, (rdv sm z8 s3 8).1.2⟩)) ?_ ?_ N (by omega)]
    · exact none_find _
    · intro k next hk
      simp only [natCast_lt8 hk, ibB_of (show (0 : Int) ≤ k by omega) (show (k : Int) < 8 by omega), cond_true]
      rw [small_eq' hN hB (rdv_ok h3 sm z8 k), Option.bind_some, wrap64 (by omega) (by omega), Int.toNat_natCast]
      rfl
    · intro next; rfl
end
end Go.Proofs.Ytjjnclgkppbpnaa
