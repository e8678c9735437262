/-
Reading: parts,lists of operations,entries; what the program's readers read,and that it is what was written.
-/
import Derived.Test.YteinehkdjkobnaaGreatqUb
set_option linter.unusedVariables false
set_option linter.unusedSimpArgs false
namespace Go.Proofs.YteinehkdjkobnaaGreat
open Go Go.Ev
abbrev St := Int × List Int
def rdD (s : St) : List Int × St := if s.1 = 0 then ((rB s.2).1,((rB s.2).2.1,(rB s.2).2.2)) else ([],s)
def rdP (g : Int → Int) (s : St) : GPart × St :=
  let a := rd1 s
  let b := rd1 a.2
  let c := rd1 b.2
  let d := rdD c.2
  (⟨a.1,g b.1,g c.1,d.1⟩,d.2)
def rdN (s : St) : Int × St :=
  let a := rd1 s
  if a.2.1 = 0 ∧ (a.1 < 0 ∨ 4096 < a.1) then (0,(40,a.2.2)) else if a.2.1 ≠ 0 then (0,a.2) else (a.1,a.2)
def rdL {α : Type} (f : St → α × St) : Nat → List α → St → List α × St
  | 0,l,s => (l,s)
  | n + 1,l,s => if s.1 ≠ 0 then ([],s) else rdL f n (l ++ [(f s).1]) (f s).2
theorem zth {α : Type} (f : St → α × St) (l : List α) (s : St) : rdL f 0 l s = (l,s) := rfl
theorem zqz {α : Type} (f : St → α × St) (n : Nat) (l : List α) (s : St) : rdL f (n + 1) l s = if s.1 ≠ 0 then ([],s) else rdL f n (l ++ [(f s).1]) (f s).2 := rfl
def rdOs (g : Int → Int) (s : St) : List GOp × St := rdL (rdO g) (rdN s).1.toNat [] (rdN s).2
def rdBa (g : Int → Int) (s : St) : zh × St :=
  let a := rd1 s
  let b := rd1 a.2
  (⟨a.1,g b.1⟩,b.2)
def zE (k : Int) : z6 := ⟨k,0,0,zOp,0,0,[],zEp,0,zV,0,zPt,0,0,0⟩
def rdEn (g : Int → Int) (s : St) : z6 × St :=
  let a := rd1 s
  let k := g a.1
  let t := a.2
  if t.1 ≠ 0 then (zE k,t) else
  if k = 0 then (zE k,t) else
  if k = 1 then
    let b := rd1 t
    let c := rd1 b.2
    let d := rdO g c.2
    (⟨k,b.1,c.1,d.1,0,0,[],zEp,0,zV,0,zPt,0,0,0⟩,d.2) else
  if k = 2 then
    let b := rd1 t
    let c := rd1 b.2
    let d := rdOs g c.2
    (⟨k,0,0,zOp,g b.1,c.1,d.1,zEp,0,zV,0,zPt,0,0,0⟩,d.2) else
  if k = 3 then
    let b := rdE g t
    (⟨k,0,0,zOp,0,0,[],b.1,0,zV,0,zPt,0,0,0⟩,b.2) else
  if k = 4 then
    let b := rd1 t
    let c := rd1 b.2
    let d := rdv id z8 c.2 8
    let e := rd1 d.1
    (⟨k,0,0,zOp,0,b.1,[],zEp,g c.1,d.2,e.1,zPt,0,0,0⟩,e.2) else
  if k = 5 then
    let b := rdP g t
    (⟨k,0,0,zOp,0,0,[],zEp,0,zV,0,b.1,0,0,0⟩,b.2) else
  if k = 6 then
    let b := rd1 t
    let c := rd1 b.2
    (⟨k,0,0,zOp,0,0,[],zEp,0,zV,0,zPt,g b.1,g c.1,0⟩,c.2) else
  if k = 7 then
    let b := rd1 t
    (⟨k,0,0,zOp,0,0,[],zEp,0,zV,0,zPt,g b.1,0,0⟩,b.2) else
  if k = 8 then
    let b := rd1 t
    let c := rd1 b.2
    (⟨k,0,0,zOp,0,0,[],zEp,0,zV,0,zPt,g b.1,0,c.1⟩,c.2) else
  (zE k,(40,t.2))
section
variable {N : Nat} {B : List Int} {s : St}
theorem rdD_ok (h : okR B s) : okR B (rdD s).2 := by
  unfold rdD
  split
  · exact (z116 s.2).trans h
  · exact h
theorem rdP_ok (g : Int → Int) (h : okR B s) : okR B (rdP g s).2 := rdD_ok (zr (zr (zr h)))
theorem z10o (g : Int → Int) (h : okR B s) : okR B (rdO g s).2 := zw1 (zw1 (zw1 (zr (zr (zr (zr (zr h)))))))
theorem zsl (h : okR B s) : okR B (rdN s).2 := by
  have h1 := zr h
  unfold rdN
  simp only
  split
  · exact h1
  · split <;> exact h1
theorem rdL_ok {α : Type} {f : St → α × St} (hf : ∀ {s},okR B s → okR B (f s).2) : ∀ (n : Nat) (l : List α) {s : St},okR B s → okR B (rdL f n l s).2
  | 0,l,s,h => h
  | n + 1,l,s,h => by
    unfold rdL
    split
    · exact h
    · exact rdL_ok hf n _ (hf h)
theorem rdOs_ok (g : Int → Int) (h : okR B s) : okR B (rdOs g s).2 := rdL_ok (fun h => z10o g h) _ _ (zsl h)
theorem rdE_ok (g : Int → Int) (h : okR B s) : okR B (rdE g s).2 := zbk (zbk (zbk (zr h) g z8 8) id z8 8) g z8 8
theorem z9g (g : Int → Int) (h : okR B s) : okR B (rdBa g s).2 := zr (zr h)
theorem rdEn_ok (g : Int → Int) (h : okR B s) : okR B (rdEn g s).2 := by
  have h1 := zr h
  unfold rdEn
  simp only
  split; · exact h1
  split; · exact h1
  split; · exact z10o g (zr (zr h1))
  split; · exact rdOs_ok g (zr (zr h1))
  split; · exact rdE_ok g h1
  split; · exact zr (zbk (zr (zr h1)) id z8 8)
  split; · exact rdP_ok g h1
  split; · exact zr (zr h1)
  split; · exact zr h1
  split; · exact zr (zr h1)
  exact h1
theorem z13s (hN : 11 ≤ N) (hB : okB B) (h : okR B s) : z4o N s.1 ⟨true,s.2⟩ = some ((rdD s).1,(rdD s).2.1,⟨true,(rdD s).2.2⟩) := by
  unfold z4o rdD
  by_cases he : s.1 = 0
  · have : (s.1 == 0) = true := by simpa using he
    rw [this,if_pos he,F23_eq hN (zj8 hB h).1 (zj8 hB h).2]
    simp only [Bool.not_true,cond_false,Option.bind_some]
    unfold z1d
    rw [this]; rfl
  · have : (s.1 == 0) = false := by simpa using he
    rw [this,if_neg he]; rfl
theorem zvj (hN : 11 ≤ N) (hB : okB B) (h : okR B s) : z1i N s.1 ⟨true,s.2⟩ = some ((rdP sm s).1,(rdP sm s).2.1,⟨true,(rdP sm s).2.2⟩) := by
  unfold z1i z8r z7l rdP
  have h1 := zr h
  have h2 := zr h1
  have h3 := zr h2
  rw [z74 hN hB h]
  simp only [Option.bind_some]
  rw [z3d hN hB h1]
  simp only [Option.bind_some]
  rw [z3d hN hB h2]
  simp only [Option.bind_some]
  rw [z13s hN hB h3]
  rfl
theorem zbc (hN : 11 ≤ N) (hB : okB B) (h : okR B s) : zp N s.1 ⟨true,s.2⟩ = some ((rdBa sm s).1,(rdBa sm s).2.1,⟨true,(rdBa sm s).2.2⟩) := by
  unfold zp z8u z7r rdBa
  have h1 := zr h
  rw [z74 hN hB h]
  simp only [Option.bind_some]
  rw [z3d hN hB h1]
  rfl
theorem z10p (hN : 11 ≤ N) (hB : okB B) (h : okR B s) : z3k N s.1 ⟨true,s.2⟩ = some ((rdN s).1,(rdN s).2.1,⟨true,(rdN s).2.2⟩) := by
  unfold z3k rdN
  rw [z74 hN hB h]
  simp only [Option.bind_some]
  by_cases he : (rd1 s).2.1 = 0
  · have e1 : ((rd1 s).2.1 == 0) = true := by simpa using he
    by_cases hx : (rd1 s).1 < 0 ∨ 4096 < (rd1 s).1
    · have e2 : (decide ((rd1 s).1 < 0) || decide (4096 < (rd1 s).1)) = true := by simpa using hx
      rw [if_pos ⟨he,hx⟩,e1,e2]; rfl
    · have e2 : (decide ((rd1 s).1 < 0) || decide (4096 < (rd1 s).1)) = false := by
        rw [Bool.eq_false_iff]; intro h; exact hx (by simpa using h)
      rw [if_neg (fun h => hx h.2),if_neg (fun h => h he),e1,e2]; rfl
  · have e1 : ((rd1 s).2.1 == 0) = false := by simpa using he
    rw [if_neg (fun h => he h.1),if_pos he,e1]; rfl
theorem zkl (s : St) : 0 ≤ (rdN s).1 ∧ (rdN s).1 ≤ 4096 := by
  unfold rdN
  simp only
  split
  · simp
  · rename_i h
    split
    · simp
    · rename_i h2
      have h2 : (rd1 s).2.1 = 0 := by simpa using h2
      have : ¬ ((rd1 s).1 < 0 ∨ 4096 < (rd1 s).1) := fun h' => h ⟨h2,h'⟩
      simp only; omega
theorem z12x (hN : 4200 ≤ N) (hB : okB B) (h : okR B s) : z2q N s.1 ⟨true,s.2⟩ = some ((rdOs sm s).1,(rdOs sm s).2.1,⟨true,(rdOs sm s).2.2⟩) := by
  unfold z2q rdOs
  rw [z10p (by omega) hB h]
  simp only [Option.bind_some]
  have hr := zkl s
  have h1 := zsl h
  generalize rdN s = p at *
  obtain ⟨n,t⟩ := p
  simp only at hr h1 ⊢
  refine z2x (fun q : z2u => 0 ≤ q.t6 ∧ q.t6 ≤ n ∧ (q.l.length : Int) = q.t6 ∧ q.b1.made = true ∧ okR B (q.b0,q.b1.b) ∧ rdL (rdO sm) (n - q.t6).toNat q.l (q.b0,q.b1.b) = rdL (rdO sm) n.toNat [] t) (fun q => (n - q.t6).toNat) ?_ N _ ⟨by simp,hr.1,by simp,rfl,h1,by simp⟩ (by simp only; omega)
  rintro ⟨l,i,e,⟨m,c⟩⟩ nx ⟨g0,g1,g2,g3,g4,hq⟩ ih
  simp only at g0 g1 g2 g3 g4 hq ih ⊢
  subst g3
  by_cases hi : i < n
  · obtain ⟨j,hj⟩ : ∃ j,(n - i).toNat = j + 1 := ⟨(n - i).toNat - 1,by omega⟩
    rw [hj,zqz] at hq
    by_cases he : e = 0
    · subst he
      simp only [ne_eq,not_true_eq_false,if_false] at hq
      rw [decide_eq_true hi]
      simp only [cond_true,beq_self_eq_true,Bool.not_true,cond_false]
      rw [op_read (s := ((0 : Int),c)) (by omega) hB g4,Option.bind_some,zpm (by simp only [List.length_cons,List.length_nil]; omega),z2p (by omega) (by omega),cond_true]
      refine ih ⟨_,i + 1,_,⟨true,_⟩⟩ ⟨by simp; omega,by simp; omega,by simp; omega,rfl,z10o sm g4,?_⟩ (by simp; omega)
      simp only
      rw [show (n - (i + 1)).toNat = j by omega]; exact hq
    · simp only [ne_eq,he,not_false_eq_true,if_true] at hq
      have eb : (e == 0) = false := by simpa using he
      rw [decide_eq_true hi,eb]
      simp only [cond_true,Bool.not_false]
      rw [← hq]
  · rw [decide_eq_false hi]
    rw [show (n - i).toNat = 0 by omega,zth] at hq
    simp only [cond_false]
    rw [← hq]
theorem z10q (hN : 11 ≤ N) (hB : okB B) (h : okR B s) (a1 a2 a3 : Int) (a4 : GOp) (a5 a6 : Int) (a7 : List GOp) (a8 : z7) (a9 : Int) (v : Vector Int 8) (a11 : Int) (a12 : GPart) (a13 a14 a15 : Int) :
    z4e N s.1 ⟨a1,a2,a3,a4,a5,a6,a7,a8,a9,v,a11,a12,a13,a14,a15⟩ ⟨true,s.2⟩ =
    some ((rdv id v s 8).1.1,⟨a1,a2,a3,a4,a5,a6,a7,a8,a9,(rdv id v s 8).2,a11,a12,a13,a14,a15⟩,⟨true,(rdv id v s 8).1.2⟩) := by
  unfold z4e
  rw [show (⟨0,s.1,⟨a1,a2,a3,a4,a5,a6,a7,a8,a9,v,a11,a12,a13,a14,a15⟩,⟨true,s.2⟩⟩ : z1p) = (fun k : Nat => (⟨(k : Int),(rdv id v s k).1.1,⟨a1,a2,a3,a4,a5,a6,a7,a8,a9,(rdv id v s k).2,a11,a12,a13,a14,a15⟩,⟨true,(rdv id v s k).1.2⟩⟩ : z1p)) 0 from rfl]
  rw [znc (fun k : Nat => (⟨(k : Int),(rdv id v s k).1.1,⟨a1,a2,a3,a4,a5,a6,a7,a8,a9,(rdv id v s k).2,a11,a12,a13,a14,a15⟩,⟨true,(rdv id v s k).1.2⟩⟩ : z1p)) 8 (fun _ => none) (some ((rdv id v s 8).1.1,⟨a1,a2,a3,a4,a5,a6,a7,a8,a9,(rdv id v s 8).2,a11,a12,a13,a14,a15⟩,⟨true,(rdv id v s 8).1.2⟩)) ?_ ?_ N (by omega)]
  · exact zng _
  · intro k next hk
    simp only [zg4 hk,z56 (show (0 : Int) ≤ k by omega) (show (k : Int) < 8 by omega),cond_true]
    rw [z74 hN hB (zbk h id v k),Option.bind_some,z2p (by omega) (by omega),Int.toNat_natCast]
    rfl
  · intro next; rfl
theorem zs4 (hN : 4200 ≤ N) (hB : okB B) (h : okR B s) : z1y N s.1 ⟨true,s.2⟩ = some ((rdEn sm s).1,(rdEn sm s).2.1,⟨true,(rdEn sm s).2.2⟩) := by
  have hN' : 11 ≤ N := by omega
  have h1 := zr h
  unfold z1y z77
  rw [z3d hN' hB h]
  simp only [Option.bind_some]
  unfold rdEn
  generalize rd1 s = p at *
  obtain ⟨a,t⟩ := p
  simp only at h1 ⊢
  generalize sm a = k
  by_cases he : t.1 ≠ 0
  · rw [if_pos he,show (t.1 == 0) = false by simpa using he]; rfl
  rw [if_neg he,show (t.1 == 0) = true by simpa using he]
  simp only [Bool.not_true,cond_false]
  by_cases k0 : k = 0
  · subst k0; rfl
  rw [if_neg k0,show (k == 0) = false by simpa using k0,cond_false]
  by_cases k1 : k = 1
  · subst k1
    simp only [beq_self_eq_true,cond_true,if_true]
    unfold z8l
    have h2 := zr h1
    have h3 := zr h2
    rw [z74 hN' hB h1]
    simp only [Option.bind_some]
    rw [z74 hN' hB h2]
    simp only [Option.bind_some]
    rw [op_read hN' hB h3]
    rfl
  rw [if_neg k1,show (k == 1) = false by simpa using k1,cond_false]
  by_cases k2 : k = 2
  · subst k2
    simp only [beq_self_eq_true,cond_true,if_true]
    unfold z7d z3j
    have h2 := zr h1
    have h3 := zr h2
    rw [z3d hN' hB h1]
    simp only [Option.bind_some]
    rw [z74 hN' hB h2]
    simp only [Option.bind_some]
    rw [z12x hN hB h3]
    rfl
  rw [if_neg k2,show (k == 2) = false by simpa using k2,cond_false]
  by_cases k3 : k = 3
  · subst k3
    simp only [beq_self_eq_true,cond_true,if_true]
    rw [z136 hN' hB h1]
    rfl
  rw [if_neg k3,show (k == 3) = false by simpa using k3,cond_false]
  by_cases k4 : k = 4
  · subst k4
    simp only [beq_self_eq_true,cond_true,if_true]
    unfold z7i z3j z8q
    have h2 := zr h1
    have h3 := zr h2
    have h4 := zbk h3 id z8 8
    rw [z74 hN' hB h1]
    simp only [Option.bind_some]
    rw [z3d hN' hB h2]
    simp only [Option.bind_some]
    rw [z10q hN' hB h3]
    simp only [Option.bind_some]
    change ((ze N (rdv id z8 _ 8).1.1 ⟨true,(rdv id z8 _ 8).1.2⟩).bind _).bind _ = _
    rw [z74 hN' hB h4]
    rfl
  rw [if_neg k4,show (k == 4) = false by simpa using k4,cond_false]
  by_cases k5 : k = 5
  · subst k5
    simp only [beq_self_eq_true,cond_true,if_true]
    rw [zvj hN' hB h1]
    rfl
  rw [if_neg k5,show (k == 5) = false by simpa using k5,cond_false]
  by_cases k6 : k = 6
  · subst k6
    simp only [beq_self_eq_true,cond_true,if_true]
    unfold z7m
    have h2 := zr h1
    rw [z3d hN' hB h1]
    simp only [Option.bind_some]
    rw [z3d hN' hB h2]
    rfl
  rw [if_neg k6,show (k == 6) = false by simpa using k6,cond_false]
  by_cases k7 : k = 7
  · subst k7
    simp only [beq_self_eq_true,cond_true,if_true]
    unfold z33
    rw [z3d hN' hB h1]
    rfl
  rw [if_neg k7,show (k == 7) = false by simpa using k7,cond_false]
  by_cases k8 : k = 8
  · subst k8
    simp only [beq_self_eq_true,cond_true,if_true]
    unfold z33 z8s
    have h2 := zr h1
    rw [z3d hN' hB h1]
    simp only [Option.bind_some]
    rw [z74 hN' hB h2]
    rfl
  rw [if_neg k8,show (k == 8) = false by simpa using k8,cond_false]
  rfl
end
end Go.Proofs.YteinehkdjkobnaaGreat
