/-
A message's bytes: the document's forms of entries,lists and messages,and what the program's writer puts.
-/
import Derived.Test.YteinehkdjkobnaaGreatqWt
set_option linter.unusedVariables false
set_option linter.unusedSimpArgs false
namespace Go.Proofs.YteinehkdjkobnaaGreat
open Go Go.Ev
section
variable {N : Nat} {e0 : Int} {w : List Int}
theorem opsB_flat (l : List GOp) : ((l.map opC).flatten).flatten = (l.map opB).flatten := by
  induction l with
  | nil => rfl
  | cons x l ih => simp only [List.map_cons,List.flatten_cons,List.flatten_append,ih]; rfl
theorem z12v (p : GPart) : (ptC p).flatten = ([p.Snap,p.Index,p.Many].map pI).flatten ++ pB p.Data := by
  simp [ptC]
theorem kind9 {e : z6} (h : kindE e) : e.Kind = 0 ∨ e.Kind = 1 ∨ e.Kind = 2 ∨ e.Kind = 3 ∨ e.Kind = 4 ∨ e.Kind = 5 ∨ e.Kind = 6 ∨ e.Kind = 7 ∨ e.Kind = 8 := by unfold kindE at h; omega
def baC (b : zh) : List (List Int) := [b.Round].map pI ++ [b.Replica].map pI
def slC (x : zd) : List (List Int) := [x.Slot].map pI ++ baC x.Ballot ++ enC x.Entry
def lsC (l : List zd) : List (List Int) := [(l.length : Int)].map pI ++ (l.map slC).flatten
def slB (x : zd) : List Int := (slC x).flatten
theorem ba64 {b : zh} (h : MayBa b) : R64 b.Round ∧ R64 b.Replica := ⟨cnt64 h.1,⟨by have := h.2; omega,by have := h.2; omega⟩⟩
theorem slB_eq (x : zd) : slB x = ([x.Slot,x.Ballot.Round,x.Ballot.Replica].map pI).flatten ++ enB x.Entry := by
  unfold slB slC baC
  simp only [List.flatten_append,List.map_cons,List.map_nil,List.flatten_cons,List.flatten_nil,List.append_nil,List.append_assoc]; rfl
theorem slsB_flat (l : List zd) : ((l.map slC).flatten).flatten = (l.map slB).flatten := by
  induction l with
  | nil => rfl
  | cons x l ih => simp only [List.map_cons,List.flatten_cons,List.flatten_append,ih]; rfl
theorem z12w (l : List zd) : (lsC l).flatten = ([(l.length : Int)].map pI).flatten ++ (l.map slB).flatten := by
  unfold lsC; rw [List.flatten_append,slsB_flat]
theorem zvh (hN : 20 ≤ N) {b : zh} (h : MayBa b) (hw : w.length ≤ 1048576) : zq N b e0 true w = some (wr e0 w (baC b)) := by
  unfold zq
  rw [ints1 hN (ba64 h).1 hw,Option.bind_some,z35,zoc hN (ba64 h).2 (z27 hw _),z1x,Option.bind_some]
  rfl
theorem adw_eq (hN : 20 ≤ N) {a : GAddr} (h : MayAd a) (hw : w.length ≤ 1048576) : z3r N a e0 true w = some (wr e0 w ([a.Group,a.Replica].map pI)) := by
  obtain ⟨⟨h1,h2⟩,h3,h4⟩ := h
  unfold z3r
  rw [small2 hN ⟨by omega,by omega⟩ ⟨by omega,by omega⟩ hw,Option.bind_some]
theorem lsw_eq {l : List zd} (hN : roomS N l) (hl : l.length ≤ 4096) (h : ∀ x ∈ l,MaySl x) (hw : w.length ≤ 1048576) : z18 N l e0 true w = some (wr e0 w (lsC l)) := by
  have hN1 := hN.1
  unfold z18
  rw [zoc (by omega) ⟨by omega,by omega⟩ hw,Option.bind_some]
  refine z2x (fun q : z2o => 0 ≤ q.t13 ∧ q.t13 ≤ (l.length : Int) ∧ q.b1 = true ∧ q.b12.length ≤ 1048576 ∧ wr q.b0 q.b12 ((l.drop q.t13.toNat).map slC).flatten = wr e0 w (lsC l)) (fun q => ((l.length : Int) - q.t13).toNat) ?_ N _ ⟨by simp,by simp,rfl,z27 hw _,?_⟩ (by simp; omega)
  · rintro ⟨i,b0,b1,b12⟩ nx ⟨g0,g1,rfl,g3,hq⟩ ih
    simp only at g0 g1 g3 hq ih ⊢
    by_cases hi : i < l.length
    · have hmem := zab (default : zd) g0 hi
      have hm := h _ hmem
      rw [z25 (default : zd) g0 hi,List.map_cons,List.flatten_cons,← z1x] at hq
      simp only [decide_eq_true hi,z56 g0 hi,cond_true]
      rw [ints1 (by omega) (cnt64 hm.1) g3,Option.bind_some,z35,zvh (by omega) hm.2.1 (z27 g3 _),z1x,Option.bind_some,z35]
      change (z1s N (lget l i default).Entry _ true _).bind _ = _
      rw [zvz (hN.2.2 _ hmem).1 hm.2.2 (z27 g3 _),z1x,Option.bind_some,z2p (by omega) (by omega)]
      exact ih ⟨i + 1,_,_,_⟩ ⟨by simp; omega,by simp; omega,rfl,z27 g3 _,hq⟩ (by simp; omega)
    · have : decide (i < (l.length : Int)) = false := by simpa using hi
      simp only [this,cond_false]
      rw [List.drop_eq_nil_of_le (by omega)] at hq
      rw [← hq]; rfl
  · simp only
    rw [z1x]; simp [lsC]
end
end Go.Proofs.YteinehkdjkobnaaGreat
