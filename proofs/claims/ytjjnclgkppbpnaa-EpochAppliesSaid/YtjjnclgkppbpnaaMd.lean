/-
Members, seals; the law of what any entry makes of any epoch.
-/
import Derived.Test.YtjjnclgkppbpnaaMc
set_option linter.unusedVariables false
set_option linter.unusedSimpArgs false
namespace Go.Proofs.Ytjjnclgkppbpnaa
open Go Go.Ev

def isM (e : GEpoch) (j : Nat) : Bool := (sta e j == 1) || (sta e j == 2)
def mems (e : GEpoch) (k : Nat) : List Int := ((List.range k).filter (isM e)).map fun (j : Nat) => (j : Int)
theorem mems_succ (e : GEpoch) (k : Nat) : mems e (k + 1) = if isM e k then mems e k ++ [(k : Int)] else mems e k := by
  unfold mems
  rw [List.range_succ, List.filter_append, List.map_append]
  cases h : isM e k <;> simp [h]
theorem mems_len (e : GEpoch) (k : Nat) : (mems e k).length ≤ k := by
  unfold mems; rw [List.length_map]
  have := List.length_filter_le (isM e) (List.range k); simpa using this

theorem F17_eq {N : Nat} (hN : 8 < N) (e : GEpoch) : F17 N e = some (mems e 8) := by
  unfold F17
  rw [show (⟨[], 0⟩ : S17x3) = (fun k : Nat => (⟨mems e k, (k : Int)⟩ : S17x3)) 0 from rfl]
  rw [iter_path (fun k : Nat => (⟨mems e k, (k : Int)⟩ : S17x3)) 8 (fun _ => none) (some (mems e 8)) ?_ ?_ N hN]
  · exact none_find _
  · intro k next hk
    have hl := mems_len e k
    simp only [natCast_lt8 hk, ibB_of (show (0 : Int) ≤ k by omega) (show (k : Int) < 8 by omega), cond_true]
    simp only [Int.toNat_natCast, stE]
    rw [lenB_of (by simp only [List.length_cons, List.length_nil]; omega), wrap64 (by omega) (by omega), mems_succ]
    rw [show ((sta e k == 1) || (sta e k == 2)) = isM e k from rfl]
    cases isM e k <;> rfl
  · intro next; rfl
theorem F39_eq (N : Nat) (e : GEpoch) {k : Nat} (hk : k < 8) : F39 N e (k : Int) = some (isM e k) := by
  unfold F39
  simp only [F34_eq, Option.bind_some, ibB_of (show (0 : Int) ≤ k by omega) (show (k : Int) < 8 by omega), Bool.or_true, cond_true, Int.toNat_natCast, stE]
  rw [show (decide ((0 : Int) ≤ k) && decide ((k : Int) < 8)) = true by simp; omega]; rfl
theorem F18_eq {N : Nat} (hN : 8 < N) (e : GEpoch) : F18 N e = some (mems e 8) := by
  unfold F18
  rw [show (⟨[], 0⟩ : S18x3) = (fun k : Nat => (⟨mems e k, (k : Int)⟩ : S18x3)) 0 from rfl]
  rw [iter_path (fun k : Nat => (⟨mems e k, (k : Int)⟩ : S18x3)) 8 (fun _ => none) (some (mems e 8)) ?_ ?_ N hN]
  · exact none_find _
  · intro k next hk
    have hl := mems_len e k
    simp only [natCast_lt8 hk, cond_true, F39_eq N e hk, Option.bind_some]
    rw [lenB_of (by simp only [List.length_cons, List.length_nil]; omega), wrap64 (by omega) (by omega), mems_succ]
    cases isM e k <;> rfl
  · intro next; rfl

theorem F16_self {N : Nat} (l : List Int) (hN : l.length < N) (hl : l.length ≤ 1000) : F16 N l l = some true := by
  unfold F16
  rw [show (!((l.length : Int) == (l.length : Int))) = false by simp, cond_false]
  rw [show (⟨0⟩ : S16x4) = (fun k : Nat => (⟨(k : Int)⟩ : S16x4)) 0 from rfl]
  rw [iter_path (fun k : Nat => (⟨(k : Int)⟩ : S16x4)) l.length (fun _ => none) (some true) ?_ ?_ N hN]
  · exact none_find _
  · intro k next hk
    simp only [ibB_of (show (0 : Int) ≤ k by omega) (show (k : Int) < l.length by omega), cond_true, beq_self_eq_true, Bool.not_true, cond_false]
    rw [show decide ((k : Int) < (l.length : Int)) = true by simp; omega, cond_true, wrap64 (by omega) (by omega)]; rfl
  · intro next
    rw [show decide ((l.length : Int) < (l.length : Int)) = false by simp]; rfl

theorem F1920 (N : Nat) (e : GEpoch) (v : Vector Int 8) : F19 N e v = F20 N e v := by
  unfold F19 F20
  refine iter_sim (fun s s' => s.t9 = s'.i ∧ s.b1 = s'.b1) ?_ N _ _ ⟨rfl, rfl⟩
  rintro ⟨i, b⟩ ⟨i', b'⟩ n n' ⟨h1, h2⟩ hn
  simp only at h1 h2
  subst h1; subst h2
  have hn' : ∀ i b, n ⟨i, b⟩ = n' ⟨i, b⟩ := fun i b => hn _ _ ⟨rfl, rfl⟩
  simp only [hn']
def F19b (e : GEpoch) (s1 : S19x2) (next2 : S19x2 → Option (Vector Int 8)) : Option (Vector Int 8) :=
 (bif (decide (s1.t9 < 8)) then
 (bif (ibB s1.t9 8) then
 (bif ((vget e.States ((s1.t9).toNat) default) == 3) then
 (bif (ibB s1.t9 8) then
 (bif (ibB s1.t9 8) then
 (bif (ibB s1.t9 8) then
 (next2 ⟨(IntKind.i64.wrap (s1.t9 + 1)), (vset s1.b1 ((s1.t9).toNat) (bif decide ((vget e.Seals ((s1.t9).toNat) default) < (vget s1.b1 ((s1.t9).toNat) default)) then (vget e.Seals ((s1.t9).toNat) default) else (vget s1.b1 ((s1.t9).toNat) default)))⟩)
 else none)
 else none)
 else none)
 else
 (next2 ⟨(IntKind.i64.wrap (s1.t9 + 1)), s1.b1⟩))
 else none)
 else
 (some s1.b1))
theorem F19_some {N : Nat} (hN : 8 < N) (e : GEpoch) (v : Vector Int 8) : ∃ r, F19 N e v = some r := by
  unfold F19
  have key := iter_post (S := S19x2) (R := Vector Int 8) (body := fun (s1 : S19x2) next2 => F19b e s1 next2) (fun s => 0 ≤ s.t9 ∧ s.t9 ≤ 8) (fun s => (8 - s.t9).toNat) (fun _ => True) ?_ N ⟨0, v⟩ ⟨by simp, by simp⟩ (by simp; omega)
  · obtain ⟨r, h, _⟩ := key; exact ⟨r, h⟩
  · rintro ⟨i, b⟩ next ⟨h0, h1⟩ ih
    unfold F19b
    simp only at h0 h1 ih ⊢
    by_cases h : i < 8
    · simp only [decide_eq_true h, ibB_of h0 h, cond_true]
      rw [wrap64 (by omega) (by omega)]
      cases (vget e.States i.toNat default == 3)
      · exact ih _ ⟨by simp; omega, by simp; omega⟩ (by simp; omega)
      · exact ih _ ⟨by simp; omega, by simp; omega⟩ (by simp; omega)
    · rw [show decide (i < 8) = false by simpa using h, cond_false]
      exact ⟨b, rfl, trivial⟩

theorem applies_law (e : GEpoch) (x : GEntry) (v : Vector Int 8) : F5 100 e x v = some true := by
  unfold F5
  obtain ⟨r, hr⟩ := F19_some (show 8 < 100 by omega) e v
  have hl := mems_len e 8
  have hE : (((app e x).1.Number == (app e x).1.Number) && ((vbeq beq3 (app e x).1.States (app e x).1.States) && ((vbeq beq2 (app e x).1.Seals (app e x).1.Seals) && (vbeq beq3 (app e x).1.Sponsor (app e x).1.Sponsor)))) = true := (eqE_iff _ _).2 rfl
  simp only [live_true, F12_eq (show 8 < 100 by omega), F14_eq (show 8 < 100 by omega), F13_eq (show 8 < 100 by omega), F15_eq (show 8 < 100 by omega), F17_eq (show 8 < 100 by omega), F18_eq (show 8 < 100 by omega), F16_self (N := 100) (mems e 8) (by omega) (by omega), ← F1920, hr, Option.bind_some, hE,
    Bool.true_and, cond_true, beq_self_eq_true, Bool.and_true, vbeq_self beq2_iff, vbeq_self beq3_iff]
end Go.Proofs.Ytjjnclgkppbpnaa
