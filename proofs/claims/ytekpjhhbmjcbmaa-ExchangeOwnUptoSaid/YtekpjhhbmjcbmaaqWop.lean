/-
Plain laws of another seat, turned to this one by wip/tools/ren2.py.
-/
import Derived.Test.YtekpjhhbmjcbmaaqFo
import Derived.Test.YtekpjhhbmjcbmaaqTvT
import Derived.KernelRfl
set_option linter.unusedVariables false
set_option linter.unusedSimpArgs false
namespace Go.Proofs.Ytekpjhhbmjcbmaa
open Go Go.Ev
section
variable {N : Nat}
theorem check_some (N : Nat) (s : GStamp) : ∃ b, Fstamp_Check N s = some b := ⟨_, rfl⟩
theorem node_some (N : Nat) (s : GStamp) : ∃ b, Fstamp_Node N s = some b := by
  obtain ⟨b, h⟩ := check_some N s
  unfold Fstamp_Node; rw [h, Option.bind_some]
  cases b <;> exact ⟨_, rfl⟩
theorem made_some (N : Nat) (n : Int) : ∃ b, Fstamp_made N n = some b := by
  unfold Fstamp_made Fstamp_Of
  cases decide (n < 16) with
  | true => exact ⟨_, rfl⟩
  | false =>
    simp only [cond_false]
    obtain ⟨b, h⟩ := check_some N ⟨IntKind.i64.wrap (Int.tdiv (IntKind.i64.wrap (n - 16)) 8), Int.tmod (IntKind.i64.wrap (n - 16)) 8⟩
    rw [h, Option.bind_some]
    cases b <;> exact ⟨_, rfl⟩
theorem top_some (N : Nat) (n : Int) : ∃ b, Fstamp_top N n = some b := ⟨_, rfl⟩
theorem indexByte_nonneg (c : UInt8) : ∀ l : List UInt8, 0 ≤ Lib.indexByte l c ∨ Lib.indexByte l c = -1
  | [] => .inr rfl
  | b :: l => by
    have ih := indexByte_nonneg c l
    unfold Lib.indexByte
    split
    · exact .inl (by omega)
    · split
      · exact .inr rfl
      · rename_i h
        have : Lib.indexByte l c ≠ -1 := fun e => h (by simp [e])
        rcases ih with h1 | h1
        · exact .inl (by omega)
        · exact absurd h1 this
theorem indexByte_iff (c : UInt8) : ∀ l : List UInt8, (0 ≤ Lib.indexByte l c ↔ c ∈ l)
  | [] => by simp [Lib.indexByte]
  | b :: l => by
    have ih := indexByte_iff c l
    have hn := indexByte_nonneg c l
    unfold Lib.indexByte
    rw [List.mem_cons]
    by_cases hb : b = c
    · subst hb; simp
    · rw [if_neg (by simpa using hb)]
      by_cases hm : c ∈ l
      · have h0 := ih.2 hm
        rw [if_neg (by simp; omega)]
        exact ⟨fun _ => .inr hm, fun _ => by omega⟩
      · have h0 : ¬ 0 ≤ Lib.indexByte l c := fun h => hm (ih.1 h)
        have h1 : Lib.indexByte l c = -1 := hn.resolve_left h0
        rw [if_pos (by simp [h1])]
        refine ⟨fun h => absurd h (by decide), fun h => ?_⟩
        rcases h with h | h
        · exact absurd h.symm hb
        · exact absurd h hm
theorem contains_eq (N : Nat) (s : List UInt8) : Fstrings_Contains N s [47] = some (decide ((47 : UInt8) ∈ s)) := by
  unfold Fstrings_Contains Fstrings_Index Finternal_stringslite_Index
  by_cases h : s = [47]
  · subst h; rfl
  · have h1 : (([47] : List UInt8) == s) = false := by
      rw [beq_eq_false_iff_ne]; exact fun e => h e.symm
    rw [h1]
    simp only [List.length_cons, List.length_nil]
    rw [show ((((0 + 1 : Nat) : Int) == 0) || false) = false from rfl, show (((0 + 1 : Nat) : Int) == 1) = true from rfl, show ibB 0 ((0 + 1 : Nat) : Int) = true from rfl]
    simp only [cond_true, cond_false]
    unfold Finternal_stringslite_IndexByte Finternal_bytealg_IndexByteString
    simp only [Option.bind_some]
    congr 1
    have := indexByte_iff 47 s
    rw [show ((([47] : List UInt8).getD 0 0).toNat : Int).toNat.toUInt8 = 47 from rfl]
    by_cases hm : (47 : UInt8) ∈ s
    · rw [decide_eq_true hm, decide_eq_true (this.2 hm)]
    · rw [decide_eq_false hm, decide_eq_false (fun q => hm (this.1 q))]
end
def ck (N : Nat) (op : GOp) : Int := (Fstamp_CheckOp N op).getD 0
def MT : Int := 1099511627776
def stt (s : GSnap) (o : Int) : Int := vget s.Epoch.States o.toNat default
def sls (s : GSnap) (o : Int) : Int := vget s.Epoch.Seals o.toNat default
def vec (s : GSnap) (o : Int) : Int := vget s.Vector_ o.toNat default
def lst (s : GSnap) (o : Int) : Int := vget s.Last o.toNat default
def stop (N : Nat) (s : GSnap) (o number last : Int) (op : GOp) : Prop :=
  MT ≤ number ∨ (stt s o = 3 ∧ sls s o ≤ number) ∨ ck N op ≠ 0 ∨ op.Stamp.Site ≠ o ∨ op.Stamp.Time ≤ last ∨ op.Stamp.Time ≤ s.Frontier
instance (N : Nat) (s : GSnap) (o number last : Int) (op : GOp) : Decidable (stop N s o number last op) := by unfold stop; infer_instance
def tk (N : Nat) (s : GSnap) (o : Int) : Int → Int → List GOp → List GOp
  | _, _, [] => []
  | n, last, op :: r => if stop N s o n last op then [] else op :: tk N s o (n + 1) op.Stamp.Time r
def bad (s : GSnap) (o seq : Int) : Prop := ¬ (0 ≤ o ∧ o < 8) ∨ o = s.Site ∨ stt s o = 0 ∨ seq < 0 ∨ vec s o < seq ∨ MT < vec s o
instance (s : GSnap) (o seq : Int) : Decidable (bad s o seq) := by unfold bad; infer_instance
def take (N : Nat) (s : GSnap) (o seq : Int) (ops : List GOp) : List GOp :=
  if bad s o seq then [] else if (ops.length : Int) ≤ vec s o - seq then [] else tk N s o (vec s o) (lst s o) (ops.drop (vec s o - seq).toNat)
section
variable {N : Nat}
theorem wrapS {n : Int} (h1 : -9000000000000000000 ≤ n) (h2 : n ≤ 9000000000000000000) : IntKind.i64.wrap n = n := wrap64 (by omega) (by omega)
theorem site_t {o : Int} (h : 0 ≤ o ∧ o < 8) : ((decide (0 ≤ o)) && (decide (o < 8))) = true := by simp [h.1, h.2]
theorem site_f {o : Int} (h : ¬ (0 ≤ o ∧ o < 8)) : ((decide (0 ≤ o)) && (decide (o < 8))) = false := by
  rw [Bool.eq_false_iff]; intro q; simp only [Bool.and_eq_true, decide_eq_true_eq] at q; exact h q
end
section
variable {N : Nat}
theorem begun_eq (hN : 400 ≤ N) : Flaw16_begun N = some true := by
  obtain ⟨k, rfl⟩ : ∃ k, N = k + 400 := ⟨N - 400, by omega⟩
  kernel_rfl
def good (N : Nat) (s : GSnap) (o : Int) : Int → Int → List GOp → Prop
  | _, _, [] => True
  | n, last, x :: r => ¬ stop N s o n last x ∧ good N s o (n + 1) x.Stamp.Time r
end
section
variable {N : Nat}
def memB (s : GSnap) (i : Int) : Bool := stt s i == 1 || stt s i == 2
def adB (a : GAddr) : Bool := (((decide (0 ≤ a.Group)) && (decide (a.Group < 9))) && (decide (0 ≤ a.Replica))) && (decide (a.Replica < 5))
theorem ad_or (a : GAddr) : ((((decide (a.Group < 0)) || (decide (9 ≤ a.Group))) || (decide (a.Replica < 0))) || (decide (5 ≤ a.Replica))) = !(adB a) := by
  unfold adB
  simp only [Bool.not_and, ← Int.not_le, decide_not, Bool.not_not]
theorem addrs_eq (hN : 3 ≤ N) (a b : GAddr) : Fexchange_addrs N [a, b] = some (adB a && adB b) := by
  obtain ⟨k, rfl⟩ : ∃ k, N = k + 3 := ⟨N - 3, by omega⟩
  have h1 : Fexchange_addrs (k + 3) [a, b] = (bif ((((decide (a.Group < 0)) || (decide (9 ≤ a.Group))) || (decide (a.Replica < 0))) || (decide (5 ≤ a.Replica))) then some false else
    (bif ((((decide (b.Group < 0)) || (decide (9 ≤ b.Group))) || (decide (b.Replica < 0))) || (decide (5 ≤ b.Replica))) then some false else some true)) := by kernel_rfl
  rw [h1, ad_or, ad_or]
  cases adB a <;> cases adB b <;> rfl
theorem beq2_iff (x y : Int) : beq2 x y = true ↔ x = y := by simp [beq2]
theorem beq3_iff (x y : Int) : beq3 x y = true ↔ x = y := by simp [beq3]
def mx (a b : Int) : Int := bif decide (a < b) then b else a
end
end Go.Proofs.Ytekpjhhbmjcbmaa
