/-
Reading: slotted entries,lists of them,messages; what the program's readers read.
-/
import Derived.Test.YteinehkdjkobnaaGreatqVb
set_option linter.unusedVariables false
set_option linter.unusedSimpArgs false
namespace Go.Proofs.YteinehkdjkobnaaGreat
open Go Go.Ev
def rdSl (g : Int → Int) (s : St) : zd × St :=
  let a := rd1 s
  let b := rdBa g a.2
  let c := rdEn g b.2
  (⟨a.1,b.1,c.1⟩,c.2)
def rdSs (g : Int → Int) (s : St) : List zd × St := rdL (rdSl g) (rdN s).1.toNat [] (rdN s).2
def rdAd (g : Int → Int) (s : St) : GAddr × St :=
  let a := rd1 s
  let b := rd1 a.2
  (⟨g a.1,g b.1⟩,b.2)
def zM (k : Int) (fr to_ : GAddr) : GMsg := ⟨k,fr,to_,zBa,0,[],zEn,0,zV,0,0,[],zEp,zPt⟩
def rdBd (g : Int → Int) (k : Int) (fr to_ : GAddr) (t : St) : GMsg × St :=
  if k = 1 then
    let x0 := rdBa g t
    let x1 := rd1 x0.2
    (⟨1,fr,to_,x0.1,x1.1,[],zEn,0,zV,0,0,[],zEp,zPt⟩,x1.2) else
  if k = 2 then
    let x0 := rdBa g t
    let x1 := rd1 x0.2
    let x2 := rdSs g x1.2
    (⟨2,fr,to_,x0.1,x1.1,x2.1,zEn,0,zV,0,0,[],zEp,zPt⟩,x2.2) else
  if k = 3 then
    let x0 := rdBa g t
    let x1 := rdSs g x0.2
    (⟨3,fr,to_,x0.1,0,x1.1,zEn,0,zV,0,0,[],zEp,zPt⟩,x1.2) else
  if k = 4 then
    let x0 := rdBa g t
    let x1 := rd1 x0.2
    (⟨4,fr,to_,x0.1,x1.1,[],zEn,0,zV,0,0,[],zEp,zPt⟩,x1.2) else
  if k = 5 then
    let x0 := rdBa g t
    (⟨5,fr,to_,x0.1,0,[],zEn,0,zV,0,0,[],zEp,zPt⟩,x0.2) else
  if k = 6 then
    let x0 := rdSs g t
    (⟨6,fr,to_,zBa,0,x0.1,zEn,0,zV,0,0,[],zEp,zPt⟩,x0.2) else
  if k = 7 then
    let x0 := rdBa g t
    let x1 := rd1 x0.2
    (⟨7,fr,to_,x0.1,x1.1,[],zEn,0,zV,0,0,[],zEp,zPt⟩,x1.2) else
  if k = 8 then
    let x0 := rd1 t
    (⟨8,fr,to_,zBa,x0.1,[],zEn,0,zV,0,0,[],zEp,zPt⟩,x0.2) else
  if k = 9 then
    let x0 := rdEn g t
    (⟨9,fr,to_,zBa,0,[],x0.1,0,zV,0,0,[],zEp,zPt⟩,x0.2) else
  if k = 10 then
    let x0 := rd1 t
    let x1 := rdv id z8 x0.2 8
    let x2 := rd1 x1.1
    (⟨10,fr,to_,zBa,0,[],zEn,x0.1,x1.2,x2.1,0,[],zEp,zPt⟩,x2.2) else
  if k = 11 then
    let x0 := rd1 t
    let x1 := rd1 x0.2
    let x2 := rd1 x1.2
    let x3 := rdOs g x2.2
    (⟨11,fr,to_,zBa,x2.1,[],zEn,x0.1,zV,0,g x1.1,x3.1,zEp,zPt⟩,x3.2) else
  if k = 12 then
    let x0 := rdE g t
    (⟨12,fr,to_,zBa,0,[],zEn,0,zV,0,0,[],x0.1,zPt⟩,x0.2) else
  if k = 13 then
    let x0 := rdP g t
    (⟨13,fr,to_,zBa,0,[],zEn,0,zV,0,0,[],zEp,x0.1⟩,x0.2) else
  if k = 14 then
    let x0 := rd1 t
    let x1 := rdv id z8 x0.2 8
    (⟨14,fr,to_,zBa,0,[],zEn,x0.1,x1.2,0,0,[],zEp,zPt⟩,x1.1) else
  if k = 15 then
    let x0 := rd1 t
    let x1 := rdP g x0.2
    (⟨15,fr,to_,zBa,x0.1,[],zEn,0,zV,0,0,[],zEp,x1.1⟩,x1.2) else
  (zM k fr to_,t)
def rdMs (g : Int → Int) (s : St) : GMsg × St :=
  let a := rd1 s
  let t := if a.2.1 = 0 ∧ (g a.1 < 1 ∨ 15 < g a.1) then (40,a.2.2) else a.2
  let b := rdAd g t
  let c := rdAd g b.2
  rdBd g (g a.1) b.1 c.1 c.2
section
variable {N : Nat} {B : List Int} {s : St}
theorem zz6 (g : Int → Int) (h : okR B s) : okR B (rdSl g s).2 := rdEn_ok g (z9g g (zr h))
theorem z122 (g : Int → Int) (h : okR B s) : okR B (rdSs g s).2 := rdL_ok (fun h => zz6 g h) _ _ (zsl h)
theorem znf (g : Int → Int) (h : okR B s) : okR B (rdAd g s).2 := zr (zr h)
theorem bd1 (g : Int → Int) (fr to_ : GAddr) (s : St) : rdBd g 1 fr to_ s = (⟨1,fr,to_,(rdBa g s).1,(rd1 (rdBa g s).2).1,[],zEn,0,zV,0,0,[],zEp,zPt⟩,(rd1 (rdBa g s).2).2) := rfl
theorem bd2 (g : Int → Int) (fr to_ : GAddr) (s : St) : rdBd g 2 fr to_ s = (⟨2,fr,to_,(rdBa g s).1,(rd1 (rdBa g s).2).1,(rdSs g (rd1 (rdBa g s).2).2).1,zEn,0,zV,0,0,[],zEp,zPt⟩,(rdSs g (rd1 (rdBa g s).2).2).2) := rfl
theorem bd3 (g : Int → Int) (fr to_ : GAddr) (s : St) : rdBd g 3 fr to_ s = (⟨3,fr,to_,(rdBa g s).1,0,(rdSs g (rdBa g s).2).1,zEn,0,zV,0,0,[],zEp,zPt⟩,(rdSs g (rdBa g s).2).2) := rfl
theorem bd4 (g : Int → Int) (fr to_ : GAddr) (s : St) : rdBd g 4 fr to_ s = (⟨4,fr,to_,(rdBa g s).1,(rd1 (rdBa g s).2).1,[],zEn,0,zV,0,0,[],zEp,zPt⟩,(rd1 (rdBa g s).2).2) := rfl
theorem bd5 (g : Int → Int) (fr to_ : GAddr) (s : St) : rdBd g 5 fr to_ s = (⟨5,fr,to_,(rdBa g s).1,0,[],zEn,0,zV,0,0,[],zEp,zPt⟩,(rdBa g s).2) := rfl
theorem bd6 (g : Int → Int) (fr to_ : GAddr) (s : St) : rdBd g 6 fr to_ s = (⟨6,fr,to_,zBa,0,(rdSs g s).1,zEn,0,zV,0,0,[],zEp,zPt⟩,(rdSs g s).2) := rfl
theorem bd7 (g : Int → Int) (fr to_ : GAddr) (s : St) : rdBd g 7 fr to_ s = (⟨7,fr,to_,(rdBa g s).1,(rd1 (rdBa g s).2).1,[],zEn,0,zV,0,0,[],zEp,zPt⟩,(rd1 (rdBa g s).2).2) := rfl
theorem bd8 (g : Int → Int) (fr to_ : GAddr) (s : St) : rdBd g 8 fr to_ s = (⟨8,fr,to_,zBa,(rd1 s).1,[],zEn,0,zV,0,0,[],zEp,zPt⟩,(rd1 s).2) := rfl
theorem bd9 (g : Int → Int) (fr to_ : GAddr) (s : St) : rdBd g 9 fr to_ s = (⟨9,fr,to_,zBa,0,[],(rdEn g s).1,0,zV,0,0,[],zEp,zPt⟩,(rdEn g s).2) := rfl
theorem bd10 (g : Int → Int) (fr to_ : GAddr) (s : St) : rdBd g 10 fr to_ s = (⟨10,fr,to_,zBa,0,[],zEn,(rd1 s).1,(rdv id z8 (rd1 s).2 8).2,(rd1 (rdv id z8 (rd1 s).2 8).1).1,0,[],zEp,zPt⟩,(rd1 (rdv id z8 (rd1 s).2 8).1).2) := rfl
theorem bd11 (g : Int → Int) (fr to_ : GAddr) (s : St) : rdBd g 11 fr to_ s = (⟨11,fr,to_,zBa,(rd1 (rd1 (rd1 s).2).2).1,[],zEn,(rd1 s).1,zV,0,g (rd1 (rd1 s).2).1,(rdOs g (rd1 (rd1 (rd1 s).2).2).2).1,zEp,zPt⟩,(rdOs g (rd1 (rd1 (rd1 s).2).2).2).2) := rfl
theorem bd12 (g : Int → Int) (fr to_ : GAddr) (s : St) : rdBd g 12 fr to_ s = (⟨12,fr,to_,zBa,0,[],zEn,0,zV,0,0,[],(rdE g s).1,zPt⟩,(rdE g s).2) := rfl
theorem bd13 (g : Int → Int) (fr to_ : GAddr) (s : St) : rdBd g 13 fr to_ s = (⟨13,fr,to_,zBa,0,[],zEn,0,zV,0,0,[],zEp,(rdP g s).1⟩,(rdP g s).2) := rfl
theorem bd14 (g : Int → Int) (fr to_ : GAddr) (s : St) : rdBd g 14 fr to_ s = (⟨14,fr,to_,zBa,0,[],zEn,(rd1 s).1,(rdv id z8 (rd1 s).2 8).2,0,0,[],zEp,zPt⟩,(rdv id z8 (rd1 s).2 8).1) := rfl
theorem bd15 (g : Int → Int) (fr to_ : GAddr) (s : St) : rdBd g 15 fr to_ s = (⟨15,fr,to_,zBa,(rd1 s).1,[],zEn,0,zV,0,0,[],zEp,(rdP g (rd1 s).2).1⟩,(rdP g (rd1 s).2).2) := rfl
theorem bd_not (g : Int → Int) {k : Int} (hk : ¬ (1 ≤ k ∧ k ≤ 15)) (fr to_ : GAddr) (s : St) : rdBd g k fr to_ s = (zM k fr to_,s) := by
  unfold rdBd
  rw [if_neg (by omega),if_neg (by omega),if_neg (by omega),if_neg (by omega),if_neg (by omega),if_neg (by omega),if_neg (by omega),if_neg (by omega),if_neg (by omega),if_neg (by omega),if_neg (by omega),if_neg (by omega),if_neg (by omega),if_neg (by omega),if_neg (by omega)]
theorem zs5 (hN : 4200 ≤ N) (hB : okB B) (h : okR B s) : z16 N s.1 ⟨true,s.2⟩ = some ((rdSs sm s).1,(rdSs sm s).2.1,⟨true,(rdSs sm s).2.2⟩) := by
  unfold z16 rdSs
  rw [z10p (by omega) hB h]
  simp only [Option.bind_some]
  have hr := zkl s
  have h1 := zsl h
  generalize rdN s = p at *
  obtain ⟨n,t⟩ := p
  simp only at hr h1 ⊢
  refine z2x (fun q : z2l => 0 ≤ q.t7 ∧ q.t7 ≤ n ∧ (q.l.length : Int) = q.t7 ∧ q.b1.made = true ∧ okR B (q.b0,q.b1.b) ∧ rdL (rdSl sm) (n - q.t7).toNat q.l (q.b0,q.b1.b) = rdL (rdSl sm) n.toNat [] t) (fun q => (n - q.t7).toNat) ?_ N _ ⟨by simp,hr.1,by simp,rfl,h1,by simp⟩ (by simp only; omega)
  rintro ⟨l,i,e,⟨m,c⟩⟩ nx ⟨g0,g1,g2,g3,g4,hq⟩ ih
  simp only at g0 g1 g2 g3 g4 hq ih ⊢
  subst g3
  by_cases hi : i < n
  · obtain ⟨j,hj⟩ : ∃ j,(n - i).toNat = j + 1 := ⟨(n - i).toNat - 1,by omega⟩
    rw [hj,zqz] at hq
    by_cases he : e = 0
    · subst he
      simp only [ne_eq,not_true_eq_false,if_false] at hq
      rw [decide_eq_true hi]
      simp only [cond_true,beq_self_eq_true,Bool.not_true,cond_false]
      unfold z8v
      have h2 := zr g4
      have h3 := z9g sm h2
      rw [z74 (s := ((0 : Int),c)) (by omega) hB g4]
      simp only [Option.bind_some]
      rw [zbc (by omega) hB h2]
      simp only [Option.bind_some]
      rw [zs4 hN hB h3]
      simp only [Option.bind_some]
      rw [zpm (by simp only [List.length_cons,List.length_nil]; omega),z2p (by omega) (by omega),cond_true]
      refine ih ⟨_,i + 1,_,⟨true,_⟩⟩ ⟨by simp; omega,by simp; omega,by simp; omega,rfl,zz6 sm g4,?_⟩ (by simp; omega)
      simp only
      rw [show (n - (i + 1)).toNat = j by omega]; exact hq
    · simp only [ne_eq,he,not_false_eq_true,if_true] at hq
      have eb : (e == 0) = false := by simpa using he
      rw [decide_eq_true hi,eb]
      simp only [cond_true,Bool.not_false]
      rw [← hq]
  · rw [decide_eq_false hi]
    rw [show (n - i).toNat = 0 by omega,zth] at hq
    simp only [cond_false]
    rw [← hq]
theorem zsm (hN : 11 ≤ N) (hB : okB B) (h : okR B s) (a1 : Int) (a2 a3 : GAddr) (a4 : zh) (a5 : Int) (a6 : List zd) (a7 : z6) (a8 : Int) (v : Vector Int 8) (a10 a11 : Int) (a12 : List GOp) (a13 : z7) (a14 : GPart) :
    z1j N s.1 ⟨a1,a2,a3,a4,a5,a6,a7,a8,v,a10,a11,a12,a13,a14⟩ ⟨true,s.2⟩ =
    some ((rdv id v s 8).1.1,⟨a1,a2,a3,a4,a5,a6,a7,a8,(rdv id v s 8).2,a10,a11,a12,a13,a14⟩,⟨true,(rdv id v s 8).1.2⟩) := by
  unfold z1j
  rw [show (⟨0,s.1,⟨a1,a2,a3,a4,a5,a6,a7,a8,v,a10,a11,a12,a13,a14⟩,⟨true,s.2⟩⟩ : z1q) = (fun k : Nat => (⟨(k : Int),(rdv id v s k).1.1,⟨a1,a2,a3,a4,a5,a6,a7,a8,(rdv id v s k).2,a10,a11,a12,a13,a14⟩,⟨true,(rdv id v s k).1.2⟩⟩ : z1q)) 0 from rfl]
  rw [znc (fun k : Nat => (⟨(k : Int),(rdv id v s k).1.1,⟨a1,a2,a3,a4,a5,a6,a7,a8,(rdv id v s k).2,a10,a11,a12,a13,a14⟩,⟨true,(rdv id v s k).1.2⟩⟩ : z1q)) 8 (fun _ => none) (some ((rdv id v s 8).1.1,⟨a1,a2,a3,a4,a5,a6,a7,a8,(rdv id v s 8).2,a10,a11,a12,a13,a14⟩,⟨true,(rdv id v s 8).1.2⟩)) ?_ ?_ N (by omega)]
  · exact zng _
  · intro k next hk
    simp only [zg4 hk,z56 (show (0 : Int) ≤ k by omega) (show (k : Int) < 8 by omega),cond_true]
    rw [z74 hN hB (zbk h id v k),Option.bind_some,z2p (by omega) (by omega),Int.toNat_natCast]
    rfl
  · intro next; rfl
theorem z10u (hN : 4200 ≤ N) (hB : okB B) (h : okR B s) (k : Int) (fr to_ : GAddr) : z3n N s.1 ⟨k,fr,to_,zBa,0,[],zEn,0,zV,0,0,[],zEp,zPt⟩ ⟨true,s.2⟩ =
    some ((rdBd sm k fr to_ s).2.1,(rdBd sm k fr to_ s).1,⟨true,(rdBd sm k fr to_ s).2.2⟩) := by
  have hN' : 11 ≤ N := by omega
  unfold z3n
  by_cases hk : 1 ≤ k ∧ k ≤ 15
  · have hk' : k = 1 ∨ k = 2 ∨ k = 3 ∨ k = 4 ∨ k = 5 ∨ k = 6 ∨ k = 7 ∨ k = 8 ∨ k = 9 ∨ k = 10 ∨ k = 11 ∨ k = 12 ∨ k = 13 ∨ k = 14 ∨ k = 15 := by omega
    rcases hk' with rfl | rfl | rfl | rfl | rfl | rfl | rfl | rfl | rfl | rfl | rfl | rfl | rfl | rfl | rfl
    · rw [bd1]
      simp only [Int.reduceBEq,cond_true,cond_false]
      unfold zg
      have h1 := z9g sm h
      have h2 := zr h1
      rw [zbc hN' hB h]
      simp only [Option.bind_some]
      rw [z74 hN' hB h1]
      rfl
    · rw [bd2]
      simp only [Int.reduceBEq,cond_true,cond_false]
      unfold zg
      have h1 := z9g sm h
      have h2 := zr h1
      have h3 := z122 sm h2
      rw [zbc hN' hB h]
      simp only [Option.bind_some]
      rw [z74 hN' hB h1]
      simp only [Option.bind_some]
      rw [zs5 hN hB h2]
      rfl
    · rw [bd3]
      simp only [Int.reduceBEq,cond_true,cond_false]
      have h1 := z9g sm h
      have h2 := z122 sm h1
      rw [zbc hN' hB h]
      simp only [Option.bind_some]
      rw [zs5 hN hB h1]
      rfl
    · rw [bd4]
      simp only [Int.reduceBEq,cond_true,cond_false]
      unfold zg
      have h1 := z9g sm h
      have h2 := zr h1
      rw [zbc hN' hB h]
      simp only [Option.bind_some]
      rw [z74 hN' hB h1]
      rfl
    · rw [bd5]
      simp only [Int.reduceBEq,cond_true,cond_false]
      have h1 := z9g sm h
      rw [zbc hN' hB h]
      rfl
    · rw [bd6]
      simp only [Int.reduceBEq,cond_true,cond_false]
      have h1 := z122 sm h
      rw [zs5 hN hB h]
      rfl
    · rw [bd7]
      simp only [Int.reduceBEq,cond_true,cond_false]
      unfold zg
      have h1 := z9g sm h
      have h2 := zr h1
      rw [zbc hN' hB h]
      simp only [Option.bind_some]
      rw [z74 hN' hB h1]
      rfl
    · rw [bd8]
      simp only [Int.reduceBEq,cond_true,cond_false]
      unfold zg
      have h1 := zr h
      rw [z74 hN' hB h]
      rfl
    · rw [bd9]
      simp only [Int.reduceBEq,cond_true,cond_false]
      have h1 := rdEn_ok sm h
      rw [zs4 hN hB h]
      rfl
    · rw [bd10]
      simp only [Int.reduceBEq,cond_true,cond_false]
      unfold z13 z3m
      have h1 := zr h
      have h2 := zbk h1 id z8 8
      have h3 := zr h2
      rw [z74 hN' hB h]
      simp only [Option.bind_some]
      rw [zsm hN' hB h1]
      simp only [Option.bind_some]
      change ((ze N (rdv id z8 _ 8).1.1 ⟨true,(rdv id z8 _ 8).1.2⟩).bind _).bind _ = _
      rw [z74 hN' hB h2]
      rfl
    · rw [bd11]
      simp only [Int.reduceBEq,cond_true,cond_false]
      unfold z13 z34 zg
      have h1 := zr h
      have h2 := zr h1
      have h3 := zr h2
      have h4 := rdOs_ok sm h3
      rw [z74 hN' hB h]
      simp only [Option.bind_some]
      rw [z3d hN' hB h1]
      simp only [Option.bind_some]
      rw [z74 hN' hB h2]
      simp only [Option.bind_some]
      rw [z12x hN hB h3]
      rfl
    · rw [bd12]
      simp only [Int.reduceBEq,cond_true,cond_false]
      have h1 := rdE_ok sm h
      rw [z136 hN' hB h]
      rfl
    · rw [bd13]
      simp only [Int.reduceBEq,cond_true,cond_false]
      have h1 := rdP_ok sm h
      rw [zvj hN' hB h]
      rfl
    · rw [bd14]
      simp only [Int.reduceBEq,cond_true,cond_false]
      unfold z13
      have h1 := zr h
      have h2 := zbk h1 id z8 8
      rw [z74 hN' hB h]
      simp only [Option.bind_some]
      rw [zsm hN' hB h1]
      rfl
    · rw [bd15]
      simp only [Int.reduceBEq,cond_true,cond_false]
      unfold zg
      have h1 := zr h
      have h2 := rdP_ok sm h1
      rw [z74 hN' hB h]
      simp only [Option.bind_some]
      rw [zvj hN' hB h1]
      rfl
  · rw [bd_not sm hk]
    have hb : ∀ j : Int,1 ≤ j ∧ j ≤ 15 → (k == j) = false := fun j hj => by
      have : k ≠ j := fun e => hk (by omega)
      simpa using this
    rw [hb 1 (by omega),cond_false,hb 4 (by omega),cond_false,hb 7 (by omega),cond_false,hb 2 (by omega),cond_false,hb 3 (by omega),cond_false,hb 5 (by omega),cond_false,hb 6 (by omega),cond_false,hb 8 (by omega),cond_false,hb 9 (by omega),cond_false,hb 10 (by omega),cond_false,hb 11 (by omega),cond_false,hb 12 (by omega),cond_false,hb 13 (by omega),cond_false,hb 14 (by omega),cond_false,hb 15 (by omega),cond_false]
    rfl
theorem z10v (hN : 11 ≤ N) (hB : okB B) (h : okR B s) (a1 : Int) (a2 a3 : GAddr) (a4 : zh) (a5 : Int) (a6 : List zd) (a7 : z6) (a8 : Int) (v : Vector Int 8) (a10 a11 : Int) (a12 : List GOp) (a13 : z7) (a14 : GPart) :
    z23 N s.1 ⟨a1,a2,a3,a4,a5,a6,a7,a8,v,a10,a11,a12,a13,a14⟩ ⟨true,s.2⟩ =
    some ((rdAd sm (rdAd sm s).2).2.1,⟨a1,(rdAd sm s).1,(rdAd sm (rdAd sm s).2).1,a4,a5,a6,a7,a8,v,a10,a11,a12,a13,a14⟩,⟨true,(rdAd sm (rdAd sm s).2).2.2⟩) := by
  have h1 := zr h
  have h2 := zr h1
  have h3 := zr h2
  unfold z23
  rw [z3d hN hB h]
  simp only [Option.bind_some]
  rw [z3d hN hB h1]
  simp only [Option.bind_some]
  rw [z3d hN hB h2]
  simp only [Option.bind_some]
  rw [z3d hN hB h3]
  rfl
theorem z10w (hN : 4200 ≤ N) (hB : okB B) (h : okR B s) : z44 N s.1 ⟨true,s.2⟩ = some ((rdMs sm s).1,(rdMs sm s).2.1,⟨true,(rdMs sm s).2.2⟩) := by
  have hN' : 11 ≤ N := by omega
  have h1 := zr h
  unfold z44 z7p rdMs
  rw [z3d hN' hB h]
  simp only [Option.bind_some]
  by_cases hc : (rd1 s).2.1 = 0 ∧ (sm (rd1 s).1 < 1 ∨ 15 < sm (rd1 s).1)
  · have e1 : (((rd1 s).2.1 == 0) && (decide (sm (rd1 s).1 < 1) || decide (15 < sm (rd1 s).1))) = true := by simpa using hc
    rw [if_pos hc,e1,cond_true]
    have h2 : okR B ((40 : Int),(rd1 s).2.2) := h1
    have h3 := znf sm h2
    have h4 := znf sm h3
    have := z10v hN' hB h2 (sm (rd1 s).1) ⟨0,0⟩ ⟨0,0⟩ zBa 0 [] zEn 0 zV 0 0 [] zEp zPt
    simp only at this
    change ((z23 N 40 ⟨sm (rd1 s).1,⟨0,0⟩,⟨0,0⟩,zBa,0,[],zEn,0,zV,0,0,[],zEp,zPt⟩ ⟨true,(rd1 s).2.2⟩).bind _) = _
    rw [this]
    simp only [Option.bind_some]
    rw [z10u hN hB h4]
    rfl
  · have e1 : (((rd1 s).2.1 == 0) && (decide (sm (rd1 s).1 < 1) || decide (15 < sm (rd1 s).1))) = false := by
      rw [Bool.eq_false_iff]; intro h; exact hc (by simpa using h)
    rw [if_neg hc,e1,cond_false]
    have h3 := znf sm h1
    have h4 := znf sm h3
    have := z10v hN' hB h1 (sm (rd1 s).1) ⟨0,0⟩ ⟨0,0⟩ zBa 0 [] zEn 0 zV 0 0 [] zEp zPt
    change ((z23 N (rd1 s).2.1 ⟨sm (rd1 s).1,⟨0,0⟩,⟨0,0⟩,zBa,0,[],zEn,0,zV,0,0,[],zEp,zPt⟩ ⟨true,(rd1 s).2.2⟩).bind _) = _
    rw [this]
    simp only [Option.bind_some]
    rw [z10u hN hB h4]
    rfl
end
end Go.Proofs.YteinehkdjkobnaaGreat
