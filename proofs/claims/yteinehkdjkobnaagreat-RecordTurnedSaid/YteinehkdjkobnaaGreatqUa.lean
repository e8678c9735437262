/-
A message's bytes: the document's forms of entries,lists and messages,and what the program's writer puts.
-/
import Derived.Test.YteinehkdjkobnaaGreatqWt
set_option linter.unusedVariables false
set_option linter.unusedSimpArgs false
namespace Go.Proofs.YteinehkdjkobnaaGreat
open Go Go.Ev
section
variable {N : Nat} {e0 : Int} {w : List Int}
def baC (b : zc) : List (List Int) := [b.Round].map pI ++ [b.Replica].map pI
def slC (x : zd) : List (List Int) := [x.Slot].map pI ++ baC x.Ballot ++ enC x.Entry
def lsC (l : List zd) : List (List Int) := [(l.length : Int)].map pI ++ (l.map slC).flatten
theorem ba64 {b : zc} (h : MayBa b) : R64 b.Round ∧ R64 b.Replica := ⟨cnt64 h.1,⟨by have := h.2; omega,by have := h.2; omega⟩⟩
theorem zwd (hN : 20 ≤ N) {b : zc} (h : MayBa b) (hw : w.length ≤ 1048576) : zn N b e0 true w = some (wr e0 w (baC b)) := by
  unfold zn
  rw [ints1 hN (ba64 h).1 hw,Option.bind_some,z2t,zp5 hN (ba64 h).2 (z1t hw _),z1l,Option.bind_some]
  rfl
theorem adw_eq (hN : 20 ≤ N) {a : GAddr} (h : MayAd a) (hw : w.length ≤ 1048576) : z3e N a e0 true w = some (wr e0 w ([a.Group,a.Replica].map pI)) := by
  obtain ⟨⟨h1,h2⟩,h3,h4⟩ := h
  unfold z3e
  rw [small2 hN ⟨by omega,by omega⟩ ⟨by omega,by omega⟩ hw,Option.bind_some]
theorem lsw_eq {l : List zd} (hN : roomS N l) (hl : l.length ≤ 4096) (h : ∀ x ∈ l,MaySl x) (hw : w.length ≤ 1048576) : z13 N l e0 true w = some (wr e0 w (lsC l)) := by
  have hN1 := hN.1
  unfold z13
  rw [zp5 (by omega) ⟨by omega,by omega⟩ hw,Option.bind_some]
  refine z2h (fun q : z2a => 0 ≤ q.t13 ∧ q.t13 ≤ (l.length : Int) ∧ q.b1 = true ∧ q.b12.length ≤ 1048576 ∧ wr q.b0 q.b12 ((l.drop q.t13.toNat).map slC).flatten = wr e0 w (lsC l)) (fun q => ((l.length : Int) - q.t13).toNat) ?_ N _ ⟨by simp,by simp,rfl,z1t hw _,?_⟩ (by simp; omega)
  · rintro ⟨i,b0,b1,b12⟩ nx ⟨g0,g1,rfl,g3,hq⟩ ih
    simp only at g0 g1 g3 hq ih ⊢
    by_cases hi : i < l.length
    · have hmem := z9a (default : zd) g0 hi
      have hm := h _ hmem
      rw [z1m (default : zd) g0 hi,List.map_cons,List.flatten_cons,← z1l] at hq
      simp only [decide_eq_true hi,z56 g0 hi,cond_true]
      rw [ints1 (by omega) (cnt64 hm.1) g3,Option.bind_some,z2t,zwd (by omega) hm.2.1 (z1t g3 _),z1l,Option.bind_some,z2t]
      change (z1f N (lget l i default).Entry _ true _).bind _ = _
      rw [z11q (hN.2.2 _ hmem).1 hm.2.2 (z1t g3 _),z1l,Option.bind_some,z2m (by omega) (by omega)]
      exact ih ⟨i + 1,_,_,_⟩ ⟨by simp; omega,by simp; omega,rfl,z1t g3 _,hq⟩ (by simp; omega)
    · have : decide (i < (l.length : Int)) = false := by simpa using hi
      simp only [this,cond_false]
      rw [List.drop_eq_nil_of_le (by omega)] at hq
      rw [← hq]; rfl
  · simp only
    rw [z1l]; simp [lsC]
end
end Go.Proofs.YteinehkdjkobnaaGreat
