/-
Plain laws of another seat, turned to this one by wip/tools/ren2.py.
-/
import Derived.Test.YteinehkdjkobnaaGreatqFp
import Derived.Test.YteinehkdjkobnaaGreatqTvT
import Derived.Test.YteinehkdjkobnaaGreatqWr
import Derived.KernelRfl
set_option linter.unusedVariables false
set_option linter.unusedSimpArgs false
namespace Go.Proofs.YteinehkdjkobnaaGreat
open Go Go.Ev
def sta (e : GEpoch) (i : Nat) : Int := vget e.States i default
def sea (e : GEpoch) (i : Nat) : Int := vget e.Seals i default
def spo (e : GEpoch) (i : Nat) : Int := vget e.Sponsor i default
def okP (e : GEpoch) (i : Nat) : Prop :=
  0 ≤ sta e i ∧ sta e i ≤ 3 ∧ 0 ≤ sea e i ∧ sea e i ≤ 1099511627776 ∧ (sta e i = 3 ∨ sea e i = 0) ∧ ((sta e i = 0 ∧ spo e i = -1) ∨ (sta e i ≠ 0 ∧ -1 ≤ spo e i ∧ spo e i < 8 ∧ spo e i ≠ i))
instance (e : GEpoch) (i : Nat) : Decidable (okP e i) := by unfold okP; exact inferInstance
def okS (e : GEpoch) (i : Nat) : Bool := decide (okP e i)
def mem1 (e : GEpoch) (i : Nat) : Bool := sta e i == 1
def chk (e : GEpoch) : Bool := decide (0 ≤ e.Number) && decide (e.Number < 1024) && (List.range 8).all (okS e) && (List.range 8).any (mem1 e)
theorem none_find {n : Nat} {α : Type} (last : Option α) : ((List.range n).findSome? (fun _ => (none : Option (Option α)))).getD last = last := by
  induction (List.range n) with
  | nil => rfl
  | cons x l ih => rw [List.findSome?_cons]; exact ih
theorem natCast_lt8 {k : Nat} (h : k < 8) : decide ((k : Int) < 8) = true := by simp; omega
def z0 : GEpoch := ⟨0, Vector.replicate 8 (default : Int), Vector.replicate 8 (default : Int), Vector.replicate 8 (default : Int)⟩
def lone (e : GEpoch) (s : Nat) : Bool := (List.range 8).all fun j => j == s || !(mem1 e j)
def app' (e : GEpoch) (kind site sponsor length : Int) : GEpoch × Int :=
  if chk e = false ∨ (kind ≠ 6 ∧ kind ≠ 7 ∧ kind ≠ 8) ∨ ¬ (0 ≤ site ∧ site < 8) then (z0, 1)
  else if 1023 ≤ e.Number then (z0, 3)
  else if kind = 6 then
    if sta e site.toNat ≠ 0 then (z0, 171)
    else if ¬ (0 ≤ sponsor ∧ sponsor < 8) then (z0, 1)
    else if sta e sponsor.toNat ≠ 1 then (z0, 171)
    else (⟨e.Number + 1, vset e.States site.toNat 1, e.Seals, vset e.Sponsor site.toNat sponsor⟩, 0)
  else if kind = 7 then
    if sta e site.toNat ≠ 1 then (z0, 171)
    else if lone e site.toNat = true then (z0, 170)
    else (⟨e.Number + 1, vset e.States site.toNat 2, e.Seals, e.Sponsor⟩, 0)
  else if sta e site.toNat ≠ 2 then (z0, 171)
  else if length < 0 ∨ 1099511627776 < length then (z0, 1)
  else (⟨e.Number + 1, vset e.States site.toNat 3, vset e.Seals site.toNat length, e.Sponsor⟩, 0)
def app (e : GEpoch) (x : GEntry) : GEpoch × Int := app' e x.Kind x.Site x.Sponsor x.Length
def eqE (a b : GEpoch) : Bool := (a.Number == b.Number) && ((vbeq beq3 a.States b.States) && ((vbeq beq2 a.Seals b.Seals) && (vbeq beq3 a.Sponsor b.Sponsor)))
def spon3 (b : GEpoch) (i k : Nat) : Int := if k = 0 then spo b i else 0
def leng3 (b : GEpoch) (i k : Nat) : Int := if k = 2 then sea b i else 0
def ent3 (b : GEpoch) (i k : Nat) : GEntry :=
  ⟨(k : Int) + 6, 0, 0, (⟨(⟨0, 0⟩ : GStamp), 0, 0, 0, [], [], []⟩ : GOp), 0, 0, [], z0, 0, Vector.replicate 8 (default : Int), 0, (⟨0, 0, 0, []⟩ : GPart), i, spon3 b i k, leng3 b i k⟩
def hit (a b : GEpoch) (i k : Nat) : Bool := ((app a (ent3 b i k)).2 == 0) && eqE (app a (ent3 b i k)).1 b
def hits (a b : GEpoch) (i : Nat) : Bool := (List.range 3).any (hit a b i)
def rd1 (s : Int × List Int) : Int × (Int × List Int) := if s.1 = 0 then ((rI s.2).1, ((rI s.2).2.1, (rI s.2).2.2)) else (0, s)
def rdv (g : Int → Int) (v0 : Vector Int 8) (s : Int × List Int) : Nat → (Int × List Int) × Vector Int 8
  | 0 => (s, v0)
  | k + 1 => ((rd1 (rdv g v0 s k).1).2, vset (rdv g v0 s k).2 k (g (rd1 (rdv g v0 s k).1).1))
def okR (B : List Int) (s : Int × List Int) : Prop := s.2 <:+ B
def z8 : Vector Int 8 := Vector.replicate 8 (default : Int)
def rdE (g : Int → Int) (s : Int × List Int) : GEpoch × (Int × List Int) :=
  (⟨(rd1 s).1, (rdv g z8 (rd1 s).2 8).2, (rdv id z8 (rdv g z8 (rd1 s).2 8).1 8).2, (rdv g z8 (rdv id z8 (rdv g z8 (rd1 s).2 8).1 8).1 8).2⟩,
    (rdv g z8 (rdv id z8 (rdv g z8 (rd1 s).2 8).1 8).1 8).1)
def sm (n : Int) : Int := if n = IntKind.i64.wrap (IntKind.i32.wrap n) then n else -2
def smr (n : Int) : Int := if n < -2147483648 ∨ 2147483648 < n then -2147483648 else n
theorem rd1_ok {B : List Int} {s : Int × List Int} (h : okR B s) : okR B (rd1 s).2 := by
  unfold rd1
  split
  · exact (rI_suffix s.2).trans h
  · exact h
theorem rdv_ok {B : List Int} {s : Int × List Int} (h : okR B s) (g : Int → Int) (v0 : Vector Int 8) : ∀ k, okR B (rdv g v0 s k).1
  | 0 => h
  | k + 1 => rd1_ok (rdv_ok h g v0 k)
theorem rdv_st (g g' : Int → Int) (v v' : Vector Int 8) (s : Int × List Int) : ∀ k, (rdv g v s k).1 = (rdv g' v' s k).1
  | 0 => rfl
  | k + 1 => by simp only [rdv, rdv_st g g' v v' s k]
theorem rdv_get (g : Int → Int) (v : Vector Int 8) (s : Int × List Int) : ∀ k, k ≤ 8 → ∀ j, j < 8 → vget (rdv g v s k).2 j default = if j < k then g (rd1 (rdv id z8 s j).1).1 else vget v j default
  | 0, _, j, _ => by simp [rdv]
  | k + 1, hk, j, hj => by
    simp only [rdv]
    rw [vget_set _ _ _ hj, rdv_get g v s k (by omega) j hj]
    by_cases h : k = j
    · subst h; rw [if_pos rfl, if_pos (by omega), rdv_st g id v z8 s k]
    · rw [if_neg h]
      by_cases h' : j < k
      · rw [if_pos h', if_pos (by omega)]
      · rw [if_neg h', if_neg (by omega)]
section
variable {N : Nat} {B : List Int} {s : Int × List Int}
def okB (B : List Int) : Prop := B.length ≤ 70368744177664 ∧ ∀ x ∈ B, byteR x
theorem okB_suf (hB : okB B) (h : okR B s) : s.2.length ≤ 70368744177664 ∧ ∀ x ∈ s.2, byteR x := suffix_ok h hB.1 hB.2
theorem int_eq (hN : 11 ≤ N) (hB : okB B) (h : okR B s) : Frecord_reader_int_407 N s.1 ⟨true, s.2⟩ = some ((rd1 s).1, (rd1 s).2.1, ⟨true, (rd1 s).2.2⟩) := by
  unfold Frecord_reader_int_407 rd1
  by_cases he : s.1 = 0
  · have : (s.1 == 0) = true := by simpa using he
    rw [this, if_pos he, F22_eq hN (okB_suf hB h).1 (okB_suf hB h).2]
    simp only [Bool.not_true, cond_false, Option.bind_some]
    unfold Frecord_reader_keep_bdf
    rw [this]; rfl
  · have : (s.1 == 0) = false := by simpa using he
    rw [this, if_neg he]; rfl
theorem small_eq' (hN : 11 ≤ N) (hB : okB B) (h : okR B s) : Frecord_reader_small_407 N s.1 ⟨true, s.2⟩ = some (sm (rd1 s).1, (rd1 s).2.1, ⟨true, (rd1 s).2.2⟩) := by
  unfold Frecord_reader_small_407 sm
  rw [int_eq hN hB h, Option.bind_some]
  by_cases hx : (rd1 s).1 = IntKind.i64.wrap (IntKind.i32.wrap (rd1 s).1)
  · rw [if_pos hx, show ((rd1 s).1 == IntKind.i64.wrap (IntKind.i32.wrap (rd1 s).1)) = true by simpa using hx]; rfl
  · rw [if_neg hx, show ((rd1 s).1 == IntKind.i64.wrap (IntKind.i32.wrap (rd1 s).1)) = false by simpa using hx]; rfl
theorem vector_eq (hN : 11 ≤ N) (hB : okB B) (h : okR B s) (a : Int) (b v d : Vector Int 8) : Frecord_reader_vector_6ca N s.1 ⟨a, b, v, d⟩ ⟨true, s.2⟩ =
    some ((rdv id v s 8).1.1, ⟨a, b, (rdv id v s 8).2, d⟩, ⟨true, (rdv id v s 8).1.2⟩) := by
  unfold Frecord_reader_vector_6ca
  rw [show (⟨0, s.1, ⟨a, b, v, d⟩, ⟨true, s.2⟩⟩ : Srecord_reader_vector_6cax1) = (fun k : Nat => (⟨(k : Int), (rdv id v s k).1.1, ⟨a, b, (rdv id v s k).2, d⟩, ⟨true, (rdv id v s k).1.2⟩⟩ : Srecord_reader_vector_6cax1)) 0 from rfl]
  rw [iter_path (fun k : Nat => (⟨(k : Int), (rdv id v s k).1.1, ⟨a, b, (rdv id v s k).2, d⟩, ⟨true, (rdv id v s k).1.2⟩⟩ : Srecord_reader_vector_6cax1)) 8 (fun _ => none) (some ((rdv id v s 8).1.1, ⟨a, b, (rdv id v s 8).2, d⟩, ⟨true, (rdv id v s 8).1.2⟩)) ?_ ?_ N (by omega)]
  · exact none_find _
  · intro k next hk
    simp only [natCast_lt8 hk, ibB_of (show (0 : Int) ≤ k by omega) (show (k : Int) < 8 by omega), cond_true]
    rw [int_eq hN hB (rdv_ok h id v k), Option.bind_some, wrap64 (by omega) (by omega), Int.toNat_natCast]
    rfl
  · intro next; rfl
theorem epoch_eq (hN : 11 ≤ N) (hB : okB B) (h : okR B s) : Frecord_reader_epoch_407 N s.1 ⟨true, s.2⟩ = some ((rdE sm s).1, (rdE sm s).2.1, ⟨true, (rdE sm s).2.2⟩) := by
  unfold Frecord_reader_epoch_407 Frecord_reader_ints_b1a
  rw [int_eq hN hB h]
  simp only [Option.bind_some]
  have h1 := rd1_ok h
  unfold rdE
  generalize (rd1 s).1 = a at *
  generalize hs1 : (rd1 s).2 = s1 at *
  rw [show (⟨0, s1.1, ⟨true, s1.2⟩, ⟨a, Vector.replicate 8 default, Vector.replicate 8 default, Vector.replicate 8 default⟩⟩ : Srecord_reader_epoch_407x4) = (fun k : Nat => (⟨(k : Int), (rdv sm z8 s1 k).1.1, ⟨true, (rdv sm z8 s1 k).1.2⟩, ⟨a, (rdv sm z8 s1 k).2, z8, z8⟩⟩ : Srecord_reader_epoch_407x4)) 0 from rfl]
  rw [iter_path (fun k : Nat => (⟨(k : Int), (rdv sm z8 s1 k).1.1, ⟨true, (rdv sm z8 s1 k).1.2⟩, ⟨a, (rdv sm z8 s1 k).2, z8, z8⟩⟩ : Srecord_reader_epoch_407x4)) 8 (fun _ => none) _ ?_ ?_ N (by omega)]
  · exact none_find _
  · intro k next hk
    simp only [natCast_lt8 hk, ibB_of (show (0 : Int) ≤ k by omega) (show (k : Int) < 8 by omega), cond_true]
    rw [small_eq' hN hB (rdv_ok h1 sm z8 k), Option.bind_some, wrap64 (by omega) (by omega), Int.toNat_natCast]
    rfl
  · intro next
    have h2 := rdv_ok h1 sm z8 8
    generalize rdv sm z8 s1 8 = p at *
    obtain ⟨s2, v1⟩ := p
    simp only at h2 ⊢
    rw [show decide (((8 : Nat) : Int) < 8) = false from rfl, cond_false, vector_eq hN hB h2, Option.bind_some]
    have h3 := rdv_ok h2 id z8 8
    generalize rdv id z8 s2 8 = p at *
    obtain ⟨s3, v2⟩ := p
    simp only at h3 ⊢
    rw [show (⟨0, s3.1, ⟨true, s3.2⟩, ⟨a, v1, v2, z8⟩⟩ : Srecord_reader_epoch_407x10) = (fun k : Nat => (⟨(k : Int), (rdv sm z8 s3 k).1.1, ⟨true, (rdv sm z8 s3 k).1.2⟩, ⟨a, v1, v2, (rdv sm z8 s3 k).2⟩⟩ : Srecord_reader_epoch_407x10)) 0 from rfl]
    rw [iter_path (fun k : Nat => (⟨(k : Int), (rdv sm z8 s3 k).1.1, ⟨true, (rdv sm z8 s3 k).1.2⟩, ⟨a, v1, v2, (rdv sm z8 s3 k).2⟩⟩ : Srecord_reader_epoch_407x10)) 8 (fun _ => none) (some ((⟨a, v1, v2, (rdv sm z8 s3 8).2⟩ : GEpoch), (rdv sm z8 s3 8).1.1, ⟨true, (rdv sm z8 s3 8).1.2⟩)) ?_ ?_ N (by omega)]
    · exact none_find _
    · intro k next hk
      simp only [natCast_lt8 hk, ibB_of (show (0 : Int) ≤ k by omega) (show (k : Int) < 8 by omega), cond_true]
      rw [small_eq' hN hB (rdv_ok h3 sm z8 k), Option.bind_some, wrap64 (by omega) (by omega), Int.toNat_natCast]
      rfl
    · intro next; rfl
end
section
variable {N : Nat} {B : List Int} {s : Int × List Int}
def rfR (B : List Int) (s : Int × List Int) : Gorchardref04_Reader := ⟨B, (B.length : Int) - s.2.length, s.1⟩
theorem num_eq' (hN : 11 ≤ N) (hB : okB B) (h : okR B s) : Fref04_Reader_Num_4b9 N (rfR B s) = some ((rd1 s).1, rfR B (rd1 s).2) := by
  unfold Fref04_Reader_Num_4b9 rd1
  obtain ⟨e, c⟩ := s
  have hlen : c.length ≤ B.length := List.IsSuffix.length_le h
  have hB1 := hB.1
  simp only [rfR]
  by_cases he : e = 0
  · subst he
    simp only [beq_self_eq_true, Bool.not_true, cond_false, if_true]
    rw [cutB_of (by omega) (by omega) (by omega), cond_true, cut_end, show ((B.length : Int) - (c.length : Int)).toNat = B.length - c.length by omega]
    have hd : B.drop (B.length - c.length) = c := (List.suffix_iff_eq_drop.1 h).symm
    rw [hd, F46_eq hN (b := c) (by have h' : c.length ≤ 70368744177664 := (okB_suf hB h).1; omega) (okB_suf hB h).2, Option.bind_some]
    obtain ⟨h1, h2, h3, h4⟩ := pv_k (okB_suf hB h).2
    simp only at h1 h2 h3 h4
    unfold rI
    generalize pv 0 0 c = p at *
    obtain ⟨n, k, e⟩ := p
    simp only at h1 h2 h3 h4 ⊢
    by_cases he : e = 0
    · subst he
      simp only [beq_self_eq_true, Bool.not_true, cond_false, List.length_drop]
      rw [wrap64 (by omega) (by omega)]
      have : (B.length : Int) - (c.length : Int) + k = (B.length : Int) - ((c.length - k.toNat : Nat) : Int) := by omega
      rw [this]
    · obtain ⟨rfl, rfl⟩ := h4 he
      have : (e == 0) = false := by simpa using he
      rw [this]
      simp only [Bool.not_false, cond_true]
      unfold Fref04_Reader_Fail_d51
      simp only [beq_self_eq_true, cond_true, Option.bind_some, Int.toNat_zero, List.drop_zero]
  · have : (e == 0) = false := by simpa using he
    simp only [this, Bool.not_false, cond_true, if_neg he]
theorem refsmall_eq (hN : 11 ≤ N) (hB : okB B) (h : okR B s) : Fref04_Reader_Small_4b9 N (rfR B s) = some (smr (rd1 s).1, rfR B (rd1 s).2) := by
  unfold Fref04_Reader_Small_4b9 smr
  rw [num_eq' hN hB h, Option.bind_some]
  by_cases hx : (rd1 s).1 < -2147483648 ∨ 2147483648 < (rd1 s).1
  · rw [if_pos hx, show (decide ((rd1 s).1 < -2147483648) || decide (2147483648 < (rd1 s).1)) = true by simpa using hx]; rfl
  · rw [if_neg hx, show (decide ((rd1 s).1 < -2147483648) || decide (2147483648 < (rd1 s).1)) = false by
      rw [Bool.eq_false_iff]; intro h; exact hx (by simpa using h)]; rfl
theorem refvector_eq (hN : 11 ≤ N) (hB : okB B) (h : okR B s) : Fref04_Reader_Vector_4b9 N (rfR B s) = some ((rdv id z8 s 8).2, rfR B (rdv id z8 s 8).1) := by
  unfold Fref04_Reader_Vector_4b9
  rw [show (⟨0, rfR B s, Vector.replicate 8 default⟩ : Sref04_Reader_Vector_4b9x3) = (fun k : Nat => (⟨(k : Int), rfR B (rdv id z8 s k).1, (rdv id z8 s k).2⟩ : Sref04_Reader_Vector_4b9x3)) 0 from rfl]
  rw [iter_path (fun k : Nat => (⟨(k : Int), rfR B (rdv id z8 s k).1, (rdv id z8 s k).2⟩ : Sref04_Reader_Vector_4b9x3)) 8 (fun _ => none) (some ((rdv id z8 s 8).2, rfR B (rdv id z8 s 8).1)) ?_ ?_ N (by omega)]
  · exact none_find _
  · intro k next hk
    simp only [natCast_lt8 hk, ibB_of (show (0 : Int) ≤ k by omega) (show (k : Int) < 8 by omega), cond_true]
    rw [num_eq' hN hB (rdv_ok h id z8 k), Option.bind_some, wrap64 (by omega) (by omega), Int.toNat_natCast]
    rfl
  · intro next; rfl
theorem refepoch_eq (hN : 11 ≤ N) (hB : okB B) (h : okR B s) : Fref04_Reader_Epoch_4b9 N (rfR B s) = some ((rdE smr s).1, rfR B (rdE smr s).2) := by
  unfold Fref04_Reader_Epoch_4b9
  rw [num_eq' hN hB h]
  simp only [Option.bind_some]
  have h1 := rd1_ok h
  unfold rdE
  generalize (rd1 s).1 = a at *
  generalize hs1 : (rd1 s).2 = s1 at *
  rw [show (⟨0, rfR B s1, ⟨a, Vector.replicate 8 default, Vector.replicate 8 default, Vector.replicate 8 default⟩⟩ : Sref04_Reader_Epoch_4b9x4) = (fun k : Nat => (⟨(k : Int), rfR B (rdv smr z8 s1 k).1, ⟨a, (rdv smr z8 s1 k).2, z8, z8⟩⟩ : Sref04_Reader_Epoch_4b9x4)) 0 from rfl]
  rw [iter_path (fun k : Nat => (⟨(k : Int), rfR B (rdv smr z8 s1 k).1, ⟨a, (rdv smr z8 s1 k).2, z8, z8⟩⟩ : Sref04_Reader_Epoch_4b9x4)) 8 (fun _ => none) _ ?_ ?_ N (by omega)]
  · exact none_find _
  · intro k next hk
    simp only [natCast_lt8 hk, ibB_of (show (0 : Int) ≤ k by omega) (show (k : Int) < 8 by omega), cond_true]
    rw [refsmall_eq hN hB (rdv_ok h1 smr z8 k), Option.bind_some, wrap64 (by omega) (by omega), Int.toNat_natCast]
    rfl
  · intro next
    have h2 := rdv_ok h1 smr z8 8
    generalize rdv smr z8 s1 8 = p at *
    obtain ⟨s2, v1⟩ := p
    simp only at h2 ⊢
    rw [show decide (((8 : Nat) : Int) < 8) = false from rfl, cond_false, refvector_eq hN hB h2, Option.bind_some]
    have h3 := rdv_ok h2 id z8 8
    generalize rdv id z8 s2 8 = p at *
    obtain ⟨s3, v2⟩ := p
    simp only at h3 ⊢
    rw [show (⟨0, rfR B s3, ⟨a, v1, v2, z8⟩⟩ : Sref04_Reader_Epoch_4b9x9) = (fun k : Nat => (⟨(k : Int), rfR B (rdv smr z8 s3 k).1, ⟨a, v1, v2, (rdv smr z8 s3 k).2⟩⟩ : Sref04_Reader_Epoch_4b9x9)) 0 from rfl]
    rw [iter_path (fun k : Nat => (⟨(k : Int), rfR B (rdv smr z8 s3 k).1, ⟨a, v1, v2, (rdv smr z8 s3 k).2⟩⟩ : Sref04_Reader_Epoch_4b9x9)) 8 (fun _ => none) (some ((⟨a, v1, v2, (rdv smr z8 s3 8).2⟩ : GEpoch), rfR B (rdv smr z8 s3 8).1)) ?_ ?_ N (by omega)]
    · exact none_find _
    · intro k next hk
      simp only [natCast_lt8 hk, ibB_of (show (0 : Int) ≤ k by omega) (show (k : Int) < 8 by omega), cond_true]
      rw [refsmall_eq hN hB (rdv_ok h3 smr z8 k), Option.bind_some, wrap64 (by omega) (by omega), Int.toNat_natCast]
      rfl
    · intro next; rfl
end
theorem sm_in {n : Int} (h : -1 ≤ sm n ∧ sm n ≤ 7) : sm n = n := by
  unfold sm at h ⊢
  split
  · rfl
  · rename_i hx; rw [if_neg hx] at h; omega
theorem smr_in {n : Int} (h : -1 ≤ smr n ∧ smr n ≤ 7) : smr n = n := by
  unfold smr at h ⊢
  split
  · rename_i hx; rw [if_pos hx] at h; omega
  · rfl
theorem wrap32 {n : Int} (h : -1 ≤ n ∧ n ≤ 7) : IntKind.i32.wrap n = n := by
  have h1 := h.1; have h2 := h.2
  simp only [IntKind.wrap, IntKind.bits, IntKind.signed]
  first | (simp; omega) | (split <;> omega)
theorem sm_of {n : Int} (h : -1 ≤ n ∧ n ≤ 7) : sm n = n := by
  unfold sm; rw [wrap32 h, wrap64 (by omega) (by omega), if_pos rfl]
theorem smr_of {n : Int} (h : -1 ≤ n ∧ n ≤ 7) : smr n = n := by
  unfold smr; rw [if_neg (by omega)]
theorem rdv_id {g : Int → Int} (hg : ∀ n, -1 ≤ g n ∧ g n ≤ 7 → g n = n) {s : Int × List Int} (h : ∀ j, j < 8 → -1 ≤ vget (rdv g z8 s 8).2 j default ∧ vget (rdv g z8 s 8).2 j default ≤ 7) : rdv g z8 s 8 = rdv id z8 s 8 := by
  refine Prod.ext (rdv_st _ _ _ _ _ _) (vext default fun j hj => ?_)
  have := h j hj
  rw [rdv_get g z8 s 8 (Nat.le_refl _) j hj, if_pos hj] at this ⊢
  rw [rdv_get id z8 s 8 (Nat.le_refl _) j hj, if_pos hj]
  exact hg _ this
theorem rdE_st (g g' : Int → Int) (s : Int × List Int) : (rdE g s).2 = (rdE g' s).2 := by
  unfold rdE
  simp only
  rw [rdv_st g g' z8 z8 (rd1 s).2 8, rdv_st g g' z8 z8 _ 8]
section
variable {N : Nat} {B : List Int} {s : Int × List Int}
attribute [local irreducible] rdv
theorem end_eq (N : Nat) (c : List Int) : Fwire_Reader_End_d95 N ⟨true, c⟩ = some (if 0 < (c.length : Int) then 13 else 0, ⟨true, c⟩) := by
  unfold Fwire_Reader_End_d95 Fwire_Reader_none_d95
  simp only [Option.bind_some, Bool.not_true, cond_false]
  by_cases h : 0 < (c.length : Int)
  · rw [if_pos h, decide_eq_true h]; rfl
  · rw [if_neg h, decide_eq_false h]; rfl
theorem take_eq (hN : 20 ≤ N) {c : List Int} (hB : okB B) (h : c <:+ B) : Frecord_TakeEpoch_d95 N ⟨true, c⟩ =
    some (if (rdE sm (0, c)).2.1 ≠ 0 then (z0, (rdE sm (0, c)).2.1, ⟨true, c⟩) else if MayEp (rdE sm (0, c)).1 then ((rdE sm (0, c)).1, 0, ⟨true, (rdE sm (0, c)).2.2⟩) else (z0, 40, ⟨true, c⟩)) := by
  unfold Frecord_TakeEpoch_d95 Frecord_taken_550 Frecord_TakeEpoch_1_219 Frecord_CheckEpoch
  rw [end_eq, Option.bind_some]
  have hne : ((if 0 < (c.length : Int) then (13 : Int) else 0) == 2) = false := by split <;> rfl
  simp only [hne, cond_false]
  rw [epoch_eq (s := (0, c)) (by omega) hB h, Option.bind_some, mayEpoch_eq hN]
  simp only [Option.bind_some]
  generalize rdE sm (0, c) = r
  obtain ⟨e, x, d⟩ := r
  simp only
  by_cases hm : MayEp e
  · have : Frecord_verdict N (decide (MayEp e)) = some 0 := by unfold Frecord_verdict; rw [decide_eq_true hm]; rfl
    rw [this]
    by_cases hx : x = 0
    · subst hx; rw [if_neg (by simp), if_pos hm]; rfl
    · have hx' : (x == 0) = false := by simpa using hx
      rw [if_pos hx]
      simp only [Option.bind_some, hx', Bool.not_false, cond_true]; rfl
  · have : Frecord_verdict N (decide (MayEp e)) = some 40 := by unfold Frecord_verdict; rw [decide_eq_false hm]; rfl
    rw [this]
    by_cases hx : x = 0
    · subst hx; rw [if_neg (by simp), if_neg hm]; rfl
    · have hx' : (x == 0) = false := by simpa using hx
      rw [if_pos hx]
      simp only [Option.bind_some, hx', Bool.not_false, cond_true]; rfl
end
def epB (e : GEpoch) : List Int := (epC e).flatten
theorem flat_len {l : List Int} (h : ∀ n ∈ l, R64 n) : (l.map pI).flatten.length ≤ 10 * l.length := by
  induction l with
  | nil => simp
  | cons x r ih =>
    have h1 := pI_len (h x (by simp))
    have h2 := ih fun n hn => h n (by simp [hn])
    simp only [List.map_cons, List.flatten_cons, List.length_append, List.length_cons]
    omega
theorem epB_len {e : GEpoch} (h : MayEp e) : (epB e).length ≤ 250 := by
  obtain ⟨h1, h2, h3⟩ := ep_states h
  have a1 := flat_len h1
  have a2 := flat_len h2
  have a3 := flat_len h3
  have a0 := pI_len (cnt64 h.1)
  simp only [Vector.length_toList] at a1 a2 a3
  unfold epB epC
  simp only [List.flatten_append, List.map_cons, List.map_nil, List.flatten_cons, List.flatten_nil, List.append_nil, List.length_append]
  omega
section
variable {N : Nat} {w : List Int}
theorem wlen_eq (w : List Int) : Fwire_Writer_Len_052 N true w = some ((w.length : Int), true, w) := rfl
theorem put1ep_eq (hN : 20 ≤ N) {o : GEpoch} (ho : MayEp o) {e : Int} {w : List Int} (hw : w.length ≤ 1048576) : Frecord_PutEpoch_1_1be N e o true w = some ((wr e w (epC o)).1, o, true, (wr e w (epC o)).2.2) := by
  unfold Frecord_PutEpoch_1_1be
  rw [epw_eq hN ho hw]; rfl
theorem wr_fit' {e : Int} {w : List Int} {cs : List (List Int)} (h : w.length + cs.flatten.length ≤ 1048576) : wr e w cs = (e, true, w ++ cs.flatten) := by
  unfold wr; rw [puts_fit cs e w h]
theorem putEp_eq (hN : 20 ≤ N) {o : GEpoch} (ho : MayEp o) (hw : w.length + 250 ≤ 1048576) : Frecord_PutEpoch_26c N o true w = some (0, true, w ++ epB o) := by
  have hlen := epB_len ho
  have hf : wr 0 [] (epC o) = (0, true, epB o) := wr_fit' (by simp only [List.length_nil]; unfold epB at hlen; omega)
  unfold Frecord_PutEpoch_26c Frecord_CheckEpoch
  rw [made_eq hN (by omega), Option.bind_some, mayEpoch_eq hN, Option.bind_some, decide_eq_true ho]
  have : Frecord_verdict N true = some 0 := rfl
  rw [this]
  simp only [Option.bind_some, beq_self_eq_true, Bool.not_true, cond_false]
  unfold Frecord_whole_94e Fwire_NewWriter
  rw [Option.bind_some, put1ep_eq hN ho (by simp), hf, Option.bind_some]
  simp only [beq_self_eq_true, Bool.not_true, Bool.not_false, cond_true, Bool.false_or, wlen_eq, Option.bind_some]
  rw [wrap64 (by omega) (by omega)]
  have : decide ((1048576 : Int) - (w.length : Int) < ((epB o).length : Int)) = false := by simp; omega
  rw [this]
  simp only [cond_false]
  rw [put1ep_eq hN ho (by omega), wr_fit' (by unfold epB at hlen; omega)]
  rfl
end
end Go.Proofs.YteinehkdjkobnaaGreat
