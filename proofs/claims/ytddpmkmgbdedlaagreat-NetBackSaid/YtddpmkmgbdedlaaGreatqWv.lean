/-
Plain laws of another seat,turned to this one by wip/tools/ren2.py.
-/
import Derived.Test.YtddpmkmgbdedlaaGreatqFn
import Derived.Test.YtddpmkmgbdedlaaGreatqWu
set_option linter.unusedVariables false
set_option linter.unusedSimpArgs false
namespace Go.Proofs.YtddpmkmgbdedlaaGreat
open Go Go.Ev
abbrev St:=Int×List Int
def rdD (s:St):List Int×St:=if s.1=0 then ((rB s.2).1,((rB s.2).2.1,(rB s.2).2.2)) else ([],s)
def rdP (g:Int→Int) (s:St):GPart×St :=
  let a:=rd1 s
  let b:=rd1 a.2
  let c:=rd1 b.2
  let d:=rdD c.2
  (⟨a.1,g b.1,g c.1,d.1⟩,d.2)
def rdN (s:St):Int×St :=
  let a:=rd1 s
  if a.2.1=0∧(a.1 < 0∨4096 < a.1) then (0,(40,a.2.2)) else if a.2.1≠0 then (0,a.2) else (a.1,a.2)
def rdL {α:Type} (f:St→α×St):Nat→List α→St→List α×St
  | 0,l,s=>(l,s)
  | n+1,l,s=>if s.1≠0 then ([],s) else rdL f n (l++[(f s).1]) (f s).2
theorem z10e {α:Type} (f:St→α×St) (l:List α) (s:St):rdL f 0 l s=(l,s):=rfl
theorem zv8 {α:Type} (f:St→α×St) (n:Nat) (l:List α) (s:St):rdL f (n+1) l s=if s.1≠0 then ([],s) else rdL f n (l++[(f s).1]) (f s).2:=rfl
def rdOs (g:Int→Int) (s:St):List GOp×St:=rdL (rdO g) (rdN s).1.toNat [] (rdN s).2
def rdBa (g:Int→Int) (s:St):zu×St :=
  let a:=rd1 s
  let b:=rd1 a.2
  (⟨a.1,g b.1⟩,b.2)
def zE (k:Int):z9:=⟨k,0,0,zOp,0,0,[],zEp,0,zV,0,zPt,0,0,0⟩
def rdEn (g:Int→Int) (s:St):z9×St :=
  let a:=rd1 s
  let k:=g a.1
  let t:=a.2
  if t.1≠0 then (zE k,t) else
  if k=0 then (zE k,t) else
  if k=1 then
    let b:=rd1 t
    let c:=rd1 b.2
    let d:=rdO g c.2
    (⟨k,b.1,c.1,d.1,0,0,[],zEp,0,zV,0,zPt,0,0,0⟩,d.2) else
  if k=2 then
    let b:=rd1 t
    let c:=rd1 b.2
    let d:=rdOs g c.2
    (⟨k,0,0,zOp,g b.1,c.1,d.1,zEp,0,zV,0,zPt,0,0,0⟩,d.2) else
  if k=3 then
    let b:=rdE g t
    (⟨k,0,0,zOp,0,0,[],b.1,0,zV,0,zPt,0,0,0⟩,b.2) else
  if k=4 then
    let b:=rd1 t
    let c:=rd1 b.2
    let d:=rdv id z8 c.2 8
    let e:=rd1 d.1
    (⟨k,0,0,zOp,0,b.1,[],zEp,g c.1,d.2,e.1,zPt,0,0,0⟩,e.2) else
  if k=5 then
    let b:=rdP g t
    (⟨k,0,0,zOp,0,0,[],zEp,0,zV,0,b.1,0,0,0⟩,b.2) else
  if k=6 then
    let b:=rd1 t
    let c:=rd1 b.2
    (⟨k,0,0,zOp,0,0,[],zEp,0,zV,0,zPt,g b.1,g c.1,0⟩,c.2) else
  if k=7 then
    let b:=rd1 t
    (⟨k,0,0,zOp,0,0,[],zEp,0,zV,0,zPt,g b.1,0,0⟩,b.2) else
  if k=8 then
    let b:=rd1 t
    let c:=rd1 b.2
    (⟨k,0,0,zOp,0,0,[],zEp,0,zV,0,zPt,g b.1,0,c.1⟩,c.2) else
  (zE k,(40,t.2))
section
variable {N:Nat} {B:List Int} {s:St}
theorem rdD_ok (h:okR B s):okR B (rdD s).2:=by
  unfold rdD
  split
  · exact (z11v s.2).trans h
  · exact h
theorem rdP_ok (g:Int→Int) (h:okR B s):okR B (rdP g s).2:=rdD_ok (z17 (z17 (z17 h)))
theorem rdO_ok (g:Int→Int) (h:okR B s):okR B (rdO g s).2:=z122 (z122 (z122 (z17 (z17 (z17 (z17 (z17 h)))))))
theorem zyz (h:okR B s):okR B (rdN s).2:=by
  have h1:=z17 h
  unfold rdN
  simp only
  split
  · exact h1
  · split<;>exact h1
theorem rdL_ok {α:Type} {f:St→α×St} (hf:∀ {s},okR B s→okR B (f s).2):∀ (n:Nat) (l:List α) {s:St},okR B s→okR B (rdL f n l s).2
  | 0,l,s,h=>h
  | n + 1, l, s, h => by
    unfold rdL
    split
    · exact h
    · exact rdL_ok hf n _ (hf h)
theorem rdOs_ok (g:Int→Int) (h:okR B s):okR B (rdOs g s).2:=rdL_ok (fun h=>rdO_ok g h) _ _ (zyz h)
theorem rdE_ok (g:Int→Int) (h:okR B s):okR B (rdE g s).2:=zh0 (zh0 (zh0 (z17 h) g z8 8) id z8 8) g z8 8
theorem zh1 (g:Int→Int) (h:okR B s):okR B (rdBa g s).2:=z17 (z17 h)
theorem rdEn_ok (g:Int→Int) (h:okR B s):okR B (rdEn g s).2:=by
  have h1:=z17 h
  unfold rdEn
  simp only
  split; · exact h1
  split; · exact h1
  split; · exact rdO_ok g (z17 (z17 h1))
  split; · exact rdOs_ok g (z17 (z17 h1))
  split; · exact rdE_ok g h1
  split; · exact z17 (zh0 (z17 (z17 h1)) id z8 8)
  split; · exact rdP_ok g h1
  split; · exact z17 (z17 h1)
  split; · exact z17 h1
  split; · exact z17 (z17 h1)
  exact h1
theorem z156 (hN:11≤N) (hB:okB B) (h:okR B s):z4t N s.1 ⟨true,s.2⟩=some ((rdD s).1,(rdD s).2.1,⟨true,(rdD s).2.2⟩):=by
  unfold z4t rdD
  by_cases he:s.1=0
  · have:(s.1==0)=true:=by simpa using he
    rw [this,if_pos he,F23_eq hN (zr6 hB h).1 (zr6 hB h).2]
    simp only [Bool.not_true,cond_false,Option.bind_some]
    unfold z1h
    rw [this]; rfl
  · have:(s.1==0)=false:=by simpa using he
    rw [this,if_neg he]; rfl
theorem zxi (hN:11≤N) (hB:okB B) (h:okR B s):z1i N s.1 ⟨true,s.2⟩=some ((rdP sm s).1,(rdP sm s).2.1,⟨true,(rdP sm s).2.2⟩):=by
  unfold z1i z95 z80 rdP
  have h1:=z17 h
  have h2:=z17 h1
  have h3:=z17 h2
  rw [z7g hN hB h]
  simp only [Option.bind_some]
  rw [z3g hN hB h1]
  simp only [Option.bind_some]
  rw [z3g hN hB h2]
  simp only [Option.bind_some]
  rw [z156 hN hB h3]
  rfl
theorem zc4 (hN:11≤N) (hB:okB B) (h:okR B s):zo N s.1 ⟨true,s.2⟩=some ((rdBa sm s).1,(rdBa sm s).2.1,⟨true,(rdBa sm s).2.2⟩):=by
  unfold zo z8x z7j rdBa
  have h1:=z17 h
  rw [z7g hN hB h]
  simp only [Option.bind_some]
  rw [z3g hN hB h1]
  rfl
theorem z123 (hN:11≤N) (hB:okB B) (h:okR B s):z3n N s.1 ⟨true,s.2⟩=some ((rdN s).1,(rdN s).2.1,⟨true,(rdN s).2.2⟩):=by
  unfold z3n rdN
  rw [z7g hN hB h]
  simp only [Option.bind_some]
  by_cases he:(rd1 s).2.1=0
  · have e1:((rd1 s).2.1==0)=true:=by simpa using he
    by_cases hx:(rd1 s).1 < 0∨4096 < (rd1 s).1
    · have e2:(decide ((rd1 s).1 < 0) || decide (4096 < (rd1 s).1))=true:=by simpa using hx
      rw [if_pos ⟨he,hx⟩,e1,e2]; rfl
    · have e2:(decide ((rd1 s).1 < 0) || decide (4096 < (rd1 s).1))=false:=by
        rw [Bool.eq_false_iff]; intro h; exact hx (by simpa using h)
      rw [if_neg (fun h=>hx h.2),if_neg (fun h=>h he),e1,e2]; rfl
  · have e1:((rd1 s).2.1==0)=false:=by simpa using he
    rw [if_neg (fun h=>he h.1),if_pos he,e1]; rfl
theorem zsl (s:St):0≤(rdN s).1∧(rdN s).1≤4096:=by
  unfold rdN
  simp only
  split
  · simp
  · rename_i h
    split
    · simp
    · rename_i h2
      have h2:(rd1 s).2.1=0:=by simpa using h2
      have:¬ ((rd1 s).1 < 0∨4096 < (rd1 s).1):=fun h'=>h ⟨h2,h'⟩
      simp only; omega
theorem z14g (hN:4200≤N) (hB:okB B) (h:okR B s):z2s N s.1 ⟨true,s.2⟩=some ((rdOs sm s).1,(rdOs sm s).2.1,⟨true,(rdOs sm s).2.2⟩):=by
  unfold z2s rdOs
  rw [z123 (by omega) hB h]
  simp only [Option.bind_some]
  have hr:=zsl s
  have h1:=zyz h
  generalize rdN s=p at *
  obtain ⟨n,t⟩:=p
  simp only at hr h1 ⊢
  refine z2i (fun q:z2w=>0≤q.t6∧q.t6≤n∧(q.l.length:Int)=q.t6∧q.b1.made=true∧okR B (q.b0,q.b1.b)∧rdL (rdO sm) (n - q.t6).toNat q.l (q.b0,q.b1.b)=rdL (rdO sm) n.toNat [] t) (fun q=>(n - q.t6).toNat) ?_ N _ ⟨by simp,hr.1,by simp,rfl,h1,by simp⟩ (by simp only; omega)
  rintro ⟨l,i,e,⟨m,c⟩⟩ nx ⟨g0,g1,g2,g3,g4,hq⟩ ih
  simp only at g0 g1 g2 g3 g4 hq ih ⊢
  subst g3
  by_cases hi:i < n
  · obtain ⟨j,hj⟩:∃ j,(n - i).toNat=j+1:=⟨(n - i).toNat - 1,by omega⟩
    rw [hj,zv8] at hq
    by_cases he:e=0
    · subst he
      simp only [ne_eq,not_true_eq_false,if_false] at hq
      rw [decide_eq_true hi]
      simp only [cond_true,beq_self_eq_true,Bool.not_true,cond_false]
      rw [op_read (s:=((0:Int),c)) (by omega) hB g4,Option.bind_some,zd6 (by simp only [List.length_cons,List.length_nil]; omega),z20 (by omega) (by omega),cond_true]
      refine ih ⟨_,i+1,_,⟨true,_⟩⟩ ⟨by simp; omega,by simp; omega,by simp; omega,rfl,rdO_ok sm g4,?_⟩ (by simp; omega)
      simp only
      rw [show (n - (i+1)).toNat=j by omega]; exact hq
    · simp only [ne_eq,he,not_false_eq_true,if_true] at hq
      have eb:(e==0)=false:=by simpa using he
      rw [decide_eq_true hi,eb]
      simp only [cond_true,Bool.not_false]
      rw [← hq]
  · rw [decide_eq_false hi]
    rw [show (n - i).toNat=0 by omega,z10e] at hq
    simp only [cond_false]
    rw [← hq]
theorem z124 (hN:11≤N) (hB:okB B) (h:okR B s) (a1 a2 a3:Int) (a4:GOp) (a5 a6:Int) (a7:List GOp) (a8:za) (a9:Int) (v:Vector Int 8) (a11:Int) (a12:GPart) (a13 a14 a15:Int) :
    z4h N s.1 ⟨a1,a2,a3,a4,a5,a6,a7,a8,a9,v,a11,a12,a13,a14,a15⟩ ⟨true,s.2⟩ =
    some ((rdv id v s 8).1.1,⟨a1,a2,a3,a4,a5,a6,a7,a8,a9,(rdv id v s 8).2,a11,a12,a13,a14,a15⟩,⟨true,(rdv id v s 8).1.2⟩):=by
  unfold z4h
  rw [show (⟨0,s.1,⟨a1,a2,a3,a4,a5,a6,a7,a8,a9,v,a11,a12,a13,a14,a15⟩,⟨true,s.2⟩⟩:z1q)=(fun k:Nat=>(⟨(k:Int),(rdv id v s k).1.1,⟨a1,a2,a3,a4,a5,a6,a7,a8,a9,(rdv id v s k).2,a11,a12,a13,a14,a15⟩,⟨true,(rdv id v s k).1.2⟩⟩:z1q)) 0 from rfl]
  rw [zoj (fun k:Nat=>(⟨(k:Int),(rdv id v s k).1.1,⟨a1,a2,a3,a4,a5,a6,a7,a8,a9,(rdv id v s k).2,a11,a12,a13,a14,a15⟩,⟨true,(rdv id v s k).1.2⟩⟩:z1q)) 8 (fun _=>none) (some ((rdv id v s 8).1.1,⟨a1,a2,a3,a4,a5,a6,a7,a8,a9,(rdv id v s 8).2,a11,a12,a13,a14,a15⟩,⟨true,(rdv id v s 8).1.2⟩)) ?_ ?_ N (by omega)]
  · exact zom _
  · intro k next hk
    simp only [zgz hk,z3x (show (0:Int)≤k by omega) (show (k:Int) < 8 by omega),cond_true]
    rw [z7g hN hB (zh0 h id v k),Option.bind_some,z20 (by omega) (by omega),Int.toNat_natCast]
    rfl
  · intro next; rfl
theorem zz0 (hN:4200≤N) (hB:okB B) (h:okR B s):z24 N s.1 ⟨true,s.2⟩=some ((rdEn sm s).1,(rdEn sm s).2.1,⟨true,(rdEn sm s).2.2⟩):=by
  have hN':11≤N:=by omega
  have h1:=z17 h
  unfold z24 z7m
  rw [z3g hN' hB h]
  simp only [Option.bind_some]
  unfold rdEn
  generalize rd1 s=p at *
  obtain ⟨a,t⟩:=p
  simp only at h1 ⊢
  generalize sm a=k
  by_cases he:t.1≠0
  · rw [if_pos he,show (t.1==0)=false by simpa using he]; rfl
  rw [if_neg he,show (t.1==0)=true by simpa using he]
  simp only [Bool.not_true,cond_false]
  by_cases k0:k=0
  · subst k0; rfl
  rw [if_neg k0,show (k==0)=false by simpa using k0,cond_false]
  by_cases k1:k=1
  · subst k1
    simp only [beq_self_eq_true,cond_true,if_true]
    unfold z8z
    have h2:=z17 h1
    have h3:=z17 h2
    rw [z7g hN' hB h1]
    simp only [Option.bind_some]
    rw [z7g hN' hB h2]
    simp only [Option.bind_some]
    rw [op_read hN' hB h3]
    rfl
  rw [if_neg k1,show (k==1)=false by simpa using k1,cond_false]
  by_cases k2:k=2
  · subst k2
    simp only [beq_self_eq_true,cond_true,if_true]
    unfold z7s z3o
    have h2:=z17 h1
    have h3:=z17 h2
    rw [z3g hN' hB h1]
    simp only [Option.bind_some]
    rw [z7g hN' hB h2]
    simp only [Option.bind_some]
    rw [z14g hN hB h3]
    rfl
  rw [if_neg k2,show (k==2)=false by simpa using k2,cond_false]
  by_cases k3:k=3
  · subst k3
    simp only [beq_self_eq_true,cond_true,if_true]
    rw [z144 hN' hB h1]
    rfl
  rw [if_neg k3,show (k==3)=false by simpa using k3,cond_false]
  by_cases k4:k=4
  · subst k4
    simp only [beq_self_eq_true,cond_true,if_true]
    unfold z7x z3o z94
    have h2:=z17 h1
    have h3:=z17 h2
    have h4:=zh0 h3 id z8 8
    rw [z7g hN' hB h1]
    simp only [Option.bind_some]
    rw [z3g hN' hB h2]
    simp only [Option.bind_some]
    rw [z124 hN' hB h3]
    simp only [Option.bind_some]
    change ((zd N (rdv id z8 _ 8).1.1 ⟨true,(rdv id z8 _ 8).1.2⟩).bind _).bind _=_
    rw [z7g hN' hB h4]
    rfl
  rw [if_neg k4,show (k==4)=false by simpa using k4,cond_false]
  by_cases k5:k=5
  · subst k5
    simp only [beq_self_eq_true,cond_true,if_true]
    rw [zxi hN' hB h1]
    rfl
  rw [if_neg k5,show (k==5)=false by simpa using k5,cond_false]
  by_cases k6:k=6
  · subst k6
    simp only [beq_self_eq_true,cond_true,if_true]
    unfold z81
    have h2:=z17 h1
    rw [z3g hN' hB h1]
    simp only [Option.bind_some]
    rw [z3g hN' hB h2]
    rfl
  rw [if_neg k6,show (k==6)=false by simpa using k6,cond_false]
  by_cases k7:k=7
  · subst k7
    simp only [beq_self_eq_true,cond_true,if_true]
    unfold z35
    rw [z3g hN' hB h1]
    rfl
  rw [if_neg k7,show (k==7)=false by simpa using k7,cond_false]
  by_cases k8:k=8
  · subst k8
    simp only [beq_self_eq_true,cond_true,if_true]
    unfold z35 z96
    have h2:=z17 h1
    rw [z3g hN' hB h1]
    simp only [Option.bind_some]
    rw [z7g hN' hB h2]
    rfl
  rw [if_neg k8,show (k==8)=false by simpa using k8,cond_false]
  rfl
end
structure SmOk (g:Int→Int):Prop where
  inb:∀ n,-1≤g n→g n=n
  of:∀ n,-1≤n∧n≤2147483647→g n=n
theorem wrap32' {n:Int} (h:-1≤n∧n≤2147483647):IntKind.i32.wrap n=n:=by
  have h1:=h.1; have h2:=h.2
  simp only [IntKind.wrap,IntKind.bits,IntKind.signed]
  first | (simp; omega) | (split<;>omega)
theorem sm_ok:SmOk sm:=by
  refine ⟨fun n h=>?_,fun n h=>?_⟩
  · unfold sm at h ⊢
    split
    · rfl
    · rename_i hx; rw [if_neg hx] at h; omega
  · unfold sm; rw [wrap32' h,z20 (by omega) (by omega),if_pos rfl]
theorem SmOk.h7 {g:Int→Int} (h:SmOk g):∀ n,-1≤g n∧g n≤7→g n=n:=fun n hn=>h.inb n hn.1
theorem SmOk.h7' {g:Int→Int} (h:SmOk g):∀ n,-1≤n∧n≤7→g n=n:=fun n hn=>h.of n ⟨hn.1,by omega⟩
section
variable {N:Nat} {B:List Int} {s:St} {g:Int→Int}
theorem z10f {t:List UInt8} (ht:t.length≤1048576) (rest:List Int):rdT (0,pT t++rest)=(t,(0,rest)):=by
  unfold rdT pT pB
  rw [if_pos rfl]
  have:=rB_back (b:=zio t) (by rw [ztr]; exact ht) rest
  rw [List.append_assoc] at this
  simp only [List.append_assoc]
  rw [this]
  simp only [z13a]
theorem rdD_back {t:List Int} (ht:t.length≤1048576) (rest:List Int):rdD (0,pB t++rest)=(t,(0,rest)):=by
  unfold rdD pB
  rw [if_pos rfl]
  have:=rB_back ht rest
  simp only at this ⊢
  rw [this]
theorem rdO_back {o:GOp} (ho:MayOp o) (rest:List Int):rdO id (0,opB o++rest)=(o,(0,rest)):=by
  obtain ⟨⟨a1,a2⟩,a3,a4,a5,a6,a7,a8⟩:=o
  obtain ⟨p1,p2,p3,p4,p5,p6,p7,p8⟩:=ho
  simp only at p1 p2 p3 p4 p5 p6 p7 p8
  have r1:R64 a1:=⟨by omega,by omega⟩
  have r2:R64 a2:=⟨by omega,by omega⟩
  have r3:R64 a3:=⟨by omega,by omega⟩
  have r4:R64 a4:=⟨by omega,by omega⟩
  have r5:R64 a5:=⟨by omega,by omega⟩
  simp only [opB,opC,List.map_cons,List.map_nil,List.flatten_append,List.flatten_cons,List.flatten_nil,List.append_nil,List.append_assoc]
  unfold rdO
  simp only [z16 r1,z16 r2,z16 r3,z16 r4,z16 r5,z10f (t:=a6) (by omega),z10f (t:=a7) (by omega),z10f (t:=a8) (by omega),id]
theorem z125 (hg:SmOk g) {o:GOp} (ho:MayOp o) (rest:List Int):rdO g (0,opB o++rest)=(o,(0,rest)):=by
  have:=rdO_back ho rest
  rw [rdO_of hg.h7' (by rw [this]; exact ho)]; exact this
theorem z10g {α:Type} {f:St→α×St} {C:α→List Int}:∀ (l2 l:List α) (rest:List Int),(∀ x∈l2,∀ r,f (0,C x++r)=(x,(0,r)))→rdL f l2.length l (0,(l2.map C).flatten++rest)=(l++l2,(0,rest))
  | [],l,rest,h=>by simp [z10e]
  | x :: l2, l, rest, h => by
    rw [List.length_cons,zv8,if_neg (by simp),List.map_cons,List.flatten_cons,List.append_assoc,h x (by simp)]
    rw [z10g l2 _ rest fun y hy=>h y (by simp [hy])]
    simp
theorem z14h {n:Nat} (hn:n≤4096) (rest:List Int):rdN (0,pI (n:Int)++rest)=((n:Int),(0,rest)):=by
  unfold rdN
  rw [z16 ⟨by omega,by omega⟩]
  simp only [ne_eq,not_true_eq_false,if_false]
  rw [if_neg (by rintro ⟨_,h⟩; omega)]
theorem opsF (l:List GOp):(opsC l).flatten=pI (l.length:Int)++(l.map opB).flatten:=by
  unfold opsC; rw [List.flatten_append,opsB_flat]; simp
theorem z126 (hg:SmOk g) {l:List GOp} (hl:l.length≤4096) (h:∀ x∈l,MayOp x) (rest:List Int):rdOs g (0,(opsC l).flatten++rest)=(l,(0,rest)):=by
  unfold rdOs
  rw [opsF,List.append_assoc,z14h hl]
  simp only [Int.toNat_natCast]
  rw [z10g (C:=opB) l [] rest fun x hx r=>z125 hg (h x hx) r]
  rfl
theorem z10h (hg:SmOk g) {p:GPart} (hp:MayPt p) (rest:List Int):rdP g (0,(ptC p).flatten++rest)=(p,(0,rest)):=by
  obtain ⟨a,b,c,d⟩:=p
  obtain ⟨m1,⟨m2,m3⟩,⟨m4,m5⟩,m6⟩:=hp
  simp only at m1 m2 m3 m4 m5 m6
  have r1:R64 a:=cnt64 m1
  have r2:R64 b:=⟨by omega,by omega⟩
  have r3:R64 c:=⟨by omega,by omega⟩
  rw [ptC_flat]
  simp only [List.map_cons,List.map_nil,List.flatten_cons,List.flatten_nil,List.append_nil,List.append_assoc]
  unfold rdP
  simp only [z16 r1,z16 r2,z16 r3,rdD_back (t:=d) (by omega),hg.of b (by omega),hg.of c (by omega)]
theorem z127 (hg:SmOk g) {e:za} (h:MayEp e) (rest:List Int):rdE g (0,(epC e).flatten++rest)=(e,(0,rest)):=by
  have:=rdE_back h rest
  rw [mE_of hg.h7' (by rw [this]; exact h)]; exact this
theorem zh2 (hg:SmOk g) {b:zu} (h:MayBa b) (rest:List Int):rdBa g (0,(baC b).flatten++rest)=(b,(0,rest)):=by
  obtain ⟨x,y⟩:=b
  have hr:=ba64 h
  obtain ⟨m1,m2,m3⟩:=h
  simp only at m2 m3 hr
  rw [z14f]
  simp only [List.map_cons,List.map_nil,List.flatten_cons,List.flatten_nil,List.append_nil,List.append_assoc]
  unfold rdBa
  simp only [z16 hr.1,z16 hr.2,hg.of y (by omega)]
section
variable (a2 a3:Int) (a4:GOp) (a5 a6:Int) (a7:List GOp) (a8:za) (a9:Int) (a10:Vector Int 8) (a11:Int) (a12:GPart) (a13 a14 a15:Int)
theorem en0:enB ⟨0,a2,a3,a4,a5,a6,a7,a8,a9,a10,a11,a12,a13,a14,a15⟩=pI 0:=by
  show ([pI 0]++[]).flatten=_
  rw [List.append_nil,List.flatten_cons,List.flatten_nil,List.append_nil]
theorem en1:enB ⟨1,a2,a3,a4,a5,a6,a7,a8,a9,a10,a11,a12,a13,a14,a15⟩=pI 1++(pI a2++(pI a3++opB a4)):=by
  simp only [enB,enC,tailC,opB,Int.reduceBEq,cond_true,cond_false,List.map_cons,List.map_nil,List.flatten_append,List.flatten_cons,List.flatten_nil,List.append_nil,List.append_assoc]
theorem en2:enB ⟨2,a2,a3,a4,a5,a6,a7,a8,a9,a10,a11,a12,a13,a14,a15⟩=pI 2++(pI a5++(pI a6++(opsC a7).flatten)):=by
  simp only [enB,enC,tailC,Int.reduceBEq,cond_true,cond_false,List.map_cons,List.map_nil,List.flatten_append,List.flatten_cons,List.flatten_nil,List.append_nil,List.append_assoc]
theorem en3:enB ⟨3,a2,a3,a4,a5,a6,a7,a8,a9,a10,a11,a12,a13,a14,a15⟩=pI 3++(epC a8).flatten:=by
  simp only [enB,enC,tailC,Int.reduceBEq,cond_true,cond_false,List.map_cons,List.map_nil,List.flatten_append,List.flatten_cons,List.flatten_nil,List.append_nil,List.append_assoc]
theorem en4:enB ⟨4,a2,a3,a4,a5,a6,a7,a8,a9,a10,a11,a12,a13,a14,a15⟩=pI 4++(pI a6++(pI a9++((a10.toList.map pI).flatten++pI a11))):=by
  simp only [enB,enC,tailC,Int.reduceBEq,cond_true,cond_false,List.map_cons,List.map_nil,List.flatten_append,List.flatten_cons,List.flatten_nil,List.append_nil,List.append_assoc]
theorem en5:enB ⟨5,a2,a3,a4,a5,a6,a7,a8,a9,a10,a11,a12,a13,a14,a15⟩=pI 5++(ptC a12).flatten:=by
  simp only [enB,enC,tailC,Int.reduceBEq,cond_true,cond_false,List.map_cons,List.map_nil,List.flatten_append,List.flatten_cons,List.flatten_nil,List.append_nil,List.append_assoc]
theorem en6:enB ⟨6,a2,a3,a4,a5,a6,a7,a8,a9,a10,a11,a12,a13,a14,a15⟩=pI 6++(pI a13++pI a14):=by
  simp only [enB,enC,tailC,Int.reduceBEq,cond_true,cond_false,List.map_cons,List.map_nil,List.flatten_append,List.flatten_cons,List.flatten_nil,List.append_nil,List.append_assoc]
theorem en7:enB ⟨7,a2,a3,a4,a5,a6,a7,a8,a9,a10,a11,a12,a13,a14,a15⟩=pI 7++pI a13:=by
  simp only [enB,enC,tailC,Int.reduceBEq,cond_true,cond_false,List.map_cons,List.map_nil,List.flatten_append,List.flatten_cons,List.flatten_nil,List.append_nil,List.append_assoc]
theorem en8:enB ⟨8,a2,a3,a4,a5,a6,a7,a8,a9,a10,a11,a12,a13,a14,a15⟩=pI 8++(pI a13++pI a15):=by
  simp only [enB,enC,tailC,Int.reduceBEq,cond_true,cond_false,List.map_cons,List.map_nil,List.flatten_append,List.flatten_cons,List.flatten_nil,List.append_nil,List.append_assoc]
end
theorem z128 (hg:SmOk g) {e:z9} (h:MayEn e) (rest:List Int):rdEn g (0,enB e++rest)=(e,(0,rest)):=by
  obtain ⟨hk,hb,hc⟩:=h
  have hk9:=kind9 hk
  obtain ⟨kd,a2,a3,a4,a5,a6,a7,a8,a9,a10,a11,a12,a13,a14,a15⟩:=e
  simp only at hk9
  have rk:∀ k:Int,0≤k∧k≤8→R64 k:=fun k h=>⟨by omega,by omega⟩
  rcases hk9 with rfl | rfl | rfl | rfl | rfl | rfl | rfl | rfl | rfl
  · replace hb:(⟨0,a2,a3,a4,a5,a6,a7,a8,a9,a10,a11,a12,a13,a14,a15⟩:z9)=⟨0,0,0,zOp,0,0,[],zEp,0,zV,0,zPt,0,0,0⟩:=hb
    rw [hb,en0]
    unfold rdEn
    simp only [z16 (rk 0 (by omega)),hg.of 0 (by omega)]
    rfl
  · replace hc:(decide (cnt a2)&&decide (0 < a2)&&decide (cnt a3)&&decide (0 < a3)&&decide (MayOp a4))=true:=hc
    simp only [Bool.and_eq_true,decide_eq_true_eq] at hc
    obtain ⟨⟨⟨⟨c1,_⟩,c2⟩,_⟩,c3⟩:=hc
    replace hb:(⟨1,a2,a3,a4,a5,a6,a7,a8,a9,a10,a11,a12,a13,a14,a15⟩:z9)=⟨1,a2,a3,a4,0,0,[],zEp,0,zV,0,zPt,0,0,0⟩:=hb
    rw [hb,en1]
    simp only [List.append_assoc]
    unfold rdEn
    simp only [z16 (rk 1 (by omega)),hg.of 1 (by omega),z16 (cnt64 c1),z16 (cnt64 c2),z125 hg c3]
    rfl
  · replace hc:(decide (sit a5)&&decide (cnt a6)&&decide (zed a7))=true:=hc
    simp only [Bool.and_eq_true,decide_eq_true_eq] at hc
    obtain ⟨⟨c1,c2⟩,c3⟩:=hc
    replace hb:(⟨2,a2,a3,a4,a5,a6,a7,a8,a9,a10,a11,a12,a13,a14,a15⟩:z9)=⟨2,0,0,zOp,a5,a6,a7,zEp,0,zV,0,zPt,0,0,0⟩:=hb
    rw [hb,en2]
    simp only [List.append_assoc]
    unfold rdEn
    simp only [z16 (rk 2 (by omega)),hg.of 2 (by omega),z16 (sit64 c1),z16 (cnt64 c2),z126 hg c3.2.1 c3.2.2,hg.of a5 (by have:=c1.1; have:=c1.2; omega)]
    rfl
  · replace hc:(decide (MayEp a8))=true:=hc
    simp only [Bool.and_eq_true,decide_eq_true_eq] at hc
    replace hb:(⟨3,a2,a3,a4,a5,a6,a7,a8,a9,a10,a11,a12,a13,a14,a15⟩:z9)=⟨3,0,0,zOp,0,0,[],a8,0,zV,0,zPt,0,0,0⟩:=hb
    rw [hb,en3]
    simp only [List.append_assoc]
    unfold rdEn
    simp only [z16 (rk 3 (by omega)),hg.of 3 (by omega),z127 hg hc]
    rfl
  · replace hc:(decide (cnt a6)&&decide (sit a9)&&decide (zeu a10)&&decide (cnt a11))=true:=hc
    simp only [Bool.and_eq_true,decide_eq_true_eq] at hc
    obtain ⟨⟨⟨c1,c2⟩,c3⟩,c4⟩:=hc
    replace hb:(⟨4,a2,a3,a4,a5,a6,a7,a8,a9,a10,a11,a12,a13,a14,a15⟩:z9)=⟨4,0,0,zOp,0,a6,[],zEp,a9,a10,a11,zPt,0,0,0⟩:=hb
    rw [hb,en4]
    simp only [List.append_assoc]
    unfold rdEn
    simp only [z16 (rk 4 (by omega)),hg.of 4 (by omega),z16 (cnt64 c1),z16 (sit64 c2),zlk (fun n hn=>cnt64 (c3 n hn)),z16 (cnt64 c4),hg.of a9 (by have:=c2.1; have:=c2.2; omega)]
    rfl
  · replace hc:(decide (MayPt a12))=true:=hc
    simp only [Bool.and_eq_true,decide_eq_true_eq] at hc
    replace hb:(⟨5,a2,a3,a4,a5,a6,a7,a8,a9,a10,a11,a12,a13,a14,a15⟩:z9)=⟨5,0,0,zOp,0,0,[],zEp,0,zV,0,a12,0,0,0⟩:=hb
    rw [hb,en5]
    simp only [List.append_assoc]
    unfold rdEn
    simp only [z16 (rk 5 (by omega)),hg.of 5 (by omega),z10h hg hc]
    rfl
  · replace hc:(decide (sit a13)&&decide (sit a14)&&decide (cnt a15))=true:=hc
    simp only [Bool.and_eq_true,decide_eq_true_eq] at hc
    obtain ⟨⟨c1,c2⟩,c3⟩:=hc
    replace hb:(⟨6,a2,a3,a4,a5,a6,a7,a8,a9,a10,a11,a12,a13,a14,a15⟩:z9)=⟨6,0,0,zOp,0,0,[],zEp,0,zV,0,zPt,a13,a14,0⟩:=hb
    rw [hb,en6]
    simp only [List.append_assoc]
    unfold rdEn
    simp only [z16 (rk 6 (by omega)),hg.of 6 (by omega),z16 (sit64 c1),z16 (sit64 c2),hg.of a13 (by have:=c1.1; have:=c1.2; omega),hg.of a14 (by have:=c2.1; have:=c2.2; omega)]
    rfl
  · replace hc:(decide (sit a13)&&decide (sit a14)&&decide (cnt a15))=true:=hc
    simp only [Bool.and_eq_true,decide_eq_true_eq] at hc
    obtain ⟨⟨c1,c2⟩,c3⟩:=hc
    replace hb:(⟨7,a2,a3,a4,a5,a6,a7,a8,a9,a10,a11,a12,a13,a14,a15⟩:z9)=⟨7,0,0,zOp,0,0,[],zEp,0,zV,0,zPt,a13,0,0⟩:=hb
    rw [hb,en7]
    simp only [List.append_assoc]
    unfold rdEn
    simp only [z16 (rk 7 (by omega)),hg.of 7 (by omega),z16 (sit64 c1),hg.of a13 (by have:=c1.1; have:=c1.2; omega)]
    rfl
  · replace hc:(decide (sit a13)&&decide (sit a14)&&decide (cnt a15))=true:=hc
    simp only [Bool.and_eq_true,decide_eq_true_eq] at hc
    obtain ⟨⟨c1,c2⟩,c3⟩:=hc
    replace hb:(⟨8,a2,a3,a4,a5,a6,a7,a8,a9,a10,a11,a12,a13,a14,a15⟩:z9)=⟨8,0,0,zOp,0,0,[],zEp,0,zV,0,zPt,a13,0,a15⟩:=hb
    rw [hb,en8]
    simp only [List.append_assoc]
    unfold rdEn
    simp only [z16 (rk 8 (by omega)),hg.of 8 (by omega),z16 (sit64 c1),z16 (cnt64 c3),hg.of a13 (by have:=c1.1; have:=c1.2; omega)]
    rfl
end
def rdSl (g:Int→Int) (s:St):zc×St :=
  let a:=rd1 s
  let b:=rdBa g a.2
  let c:=rdEn g b.2
  (⟨a.1,b.1,c.1⟩,c.2)
def rdSs (g:Int→Int) (s:St):List zc×St:=rdL (rdSl g) (rdN s).1.toNat [] (rdN s).2
def rdAd (g:Int→Int) (s:St):GAddr×St :=
  let a:=rd1 s
  let b:=rd1 a.2
  (⟨g a.1,g b.1⟩,b.2)
def zM (k:Int) (fr to_:GAddr):GMsg:=⟨k,fr,to_,zBa,0,[],zEn,0,zV,0,0,[],zEp,zPt⟩
def rdBd (g:Int→Int) (k:Int) (fr to_:GAddr) (t:St):GMsg×St :=
  if k=1 then
    let x0:=rdBa g t
    let x1:=rd1 x0.2
    (⟨1,fr,to_,x0.1,x1.1,[],zEn,0,zV,0,0,[],zEp,zPt⟩,x1.2) else
  if k=2 then
    let x0:=rdBa g t
    let x1:=rd1 x0.2
    let x2:=rdSs g x1.2
    (⟨2,fr,to_,x0.1,x1.1,x2.1,zEn,0,zV,0,0,[],zEp,zPt⟩,x2.2) else
  if k=3 then
    let x0:=rdBa g t
    let x1:=rdSs g x0.2
    (⟨3,fr,to_,x0.1,0,x1.1,zEn,0,zV,0,0,[],zEp,zPt⟩,x1.2) else
  if k=4 then
    let x0:=rdBa g t
    let x1:=rd1 x0.2
    (⟨4,fr,to_,x0.1,x1.1,[],zEn,0,zV,0,0,[],zEp,zPt⟩,x1.2) else
  if k=5 then
    let x0:=rdBa g t
    (⟨5,fr,to_,x0.1,0,[],zEn,0,zV,0,0,[],zEp,zPt⟩,x0.2) else
  if k=6 then
    let x0:=rdSs g t
    (⟨6,fr,to_,zBa,0,x0.1,zEn,0,zV,0,0,[],zEp,zPt⟩,x0.2) else
  if k=7 then
    let x0:=rdBa g t
    let x1:=rd1 x0.2
    (⟨7,fr,to_,x0.1,x1.1,[],zEn,0,zV,0,0,[],zEp,zPt⟩,x1.2) else
  if k=8 then
    let x0:=rd1 t
    (⟨8,fr,to_,zBa,x0.1,[],zEn,0,zV,0,0,[],zEp,zPt⟩,x0.2) else
  if k=9 then
    let x0:=rdEn g t
    (⟨9,fr,to_,zBa,0,[],x0.1,0,zV,0,0,[],zEp,zPt⟩,x0.2) else
  if k=10 then
    let x0:=rd1 t
    let x1:=rdv id z8 x0.2 8
    let x2:=rd1 x1.1
    (⟨10,fr,to_,zBa,0,[],zEn,x0.1,x1.2,x2.1,0,[],zEp,zPt⟩,x2.2) else
  if k=11 then
    let x0:=rd1 t
    let x1:=rd1 x0.2
    let x2:=rd1 x1.2
    let x3:=rdOs g x2.2
    (⟨11,fr,to_,zBa,x2.1,[],zEn,x0.1,zV,0,g x1.1,x3.1,zEp,zPt⟩,x3.2) else
  if k=12 then
    let x0:=rdE g t
    (⟨12,fr,to_,zBa,0,[],zEn,0,zV,0,0,[],x0.1,zPt⟩,x0.2) else
  if k=13 then
    let x0:=rdP g t
    (⟨13,fr,to_,zBa,0,[],zEn,0,zV,0,0,[],zEp,x0.1⟩,x0.2) else
  if k=14 then
    let x0:=rd1 t
    let x1:=rdv id z8 x0.2 8
    (⟨14,fr,to_,zBa,0,[],zEn,x0.1,x1.2,0,0,[],zEp,zPt⟩,x1.1) else
  if k=15 then
    let x0:=rd1 t
    let x1:=rdP g x0.2
    (⟨15,fr,to_,zBa,x0.1,[],zEn,0,zV,0,0,[],zEp,x1.1⟩,x1.2) else
  (zM k fr to_,t)
def rdMs (g:Int→Int) (s:St):GMsg×St :=
  let a:=rd1 s
  let t:=if a.2.1=0∧(g a.1 < 1∨15 < g a.1) then (40,a.2.2) else a.2
  let b:=rdAd g t
  let c:=rdAd g b.2
  rdBd g (g a.1) b.1 c.1 c.2
section
variable {N:Nat} {B:List Int} {s:St}
theorem z13b (g:Int→Int) (h:okR B s):okR B (rdSl g s).2:=rdEn_ok g (zh1 g (z17 h))
theorem z13c (g:Int→Int) (h:okR B s):okR B (rdSs g s).2:=rdL_ok (fun h=>z13b g h) _ _ (zyz h)
theorem ztt (g:Int→Int) (h:okR B s):okR B (rdAd g s).2:=z17 (z17 h)
theorem bd1 (g:Int→Int) (fr to_:GAddr) (s:St):rdBd g 1 fr to_ s=(⟨1,fr,to_,(rdBa g s).1,(rd1 (rdBa g s).2).1,[],zEn,0,zV,0,0,[],zEp,zPt⟩,(rd1 (rdBa g s).2).2):=rfl
theorem bd2 (g:Int→Int) (fr to_:GAddr) (s:St):rdBd g 2 fr to_ s=(⟨2,fr,to_,(rdBa g s).1,(rd1 (rdBa g s).2).1,(rdSs g (rd1 (rdBa g s).2).2).1,zEn,0,zV,0,0,[],zEp,zPt⟩,(rdSs g (rd1 (rdBa g s).2).2).2):=rfl
theorem bd3 (g:Int→Int) (fr to_:GAddr) (s:St):rdBd g 3 fr to_ s=(⟨3,fr,to_,(rdBa g s).1,0,(rdSs g (rdBa g s).2).1,zEn,0,zV,0,0,[],zEp,zPt⟩,(rdSs g (rdBa g s).2).2):=rfl
theorem bd4 (g:Int→Int) (fr to_:GAddr) (s:St):rdBd g 4 fr to_ s=(⟨4,fr,to_,(rdBa g s).1,(rd1 (rdBa g s).2).1,[],zEn,0,zV,0,0,[],zEp,zPt⟩,(rd1 (rdBa g s).2).2):=rfl
theorem bd5 (g:Int→Int) (fr to_:GAddr) (s:St):rdBd g 5 fr to_ s=(⟨5,fr,to_,(rdBa g s).1,0,[],zEn,0,zV,0,0,[],zEp,zPt⟩,(rdBa g s).2):=rfl
theorem bd6 (g:Int→Int) (fr to_:GAddr) (s:St):rdBd g 6 fr to_ s=(⟨6,fr,to_,zBa,0,(rdSs g s).1,zEn,0,zV,0,0,[],zEp,zPt⟩,(rdSs g s).2):=rfl
theorem bd7 (g:Int→Int) (fr to_:GAddr) (s:St):rdBd g 7 fr to_ s=(⟨7,fr,to_,(rdBa g s).1,(rd1 (rdBa g s).2).1,[],zEn,0,zV,0,0,[],zEp,zPt⟩,(rd1 (rdBa g s).2).2):=rfl
theorem bd8 (g:Int→Int) (fr to_:GAddr) (s:St):rdBd g 8 fr to_ s=(⟨8,fr,to_,zBa,(rd1 s).1,[],zEn,0,zV,0,0,[],zEp,zPt⟩,(rd1 s).2):=rfl
theorem bd9 (g:Int→Int) (fr to_:GAddr) (s:St):rdBd g 9 fr to_ s=(⟨9,fr,to_,zBa,0,[],(rdEn g s).1,0,zV,0,0,[],zEp,zPt⟩,(rdEn g s).2):=rfl
theorem bd10 (g:Int→Int) (fr to_:GAddr) (s:St):rdBd g 10 fr to_ s=(⟨10,fr,to_,zBa,0,[],zEn,(rd1 s).1,(rdv id z8 (rd1 s).2 8).2,(rd1 (rdv id z8 (rd1 s).2 8).1).1,0,[],zEp,zPt⟩,(rd1 (rdv id z8 (rd1 s).2 8).1).2):=rfl
theorem bd11 (g:Int→Int) (fr to_:GAddr) (s:St):rdBd g 11 fr to_ s=(⟨11,fr,to_,zBa,(rd1 (rd1 (rd1 s).2).2).1,[],zEn,(rd1 s).1,zV,0,g (rd1 (rd1 s).2).1,(rdOs g (rd1 (rd1 (rd1 s).2).2).2).1,zEp,zPt⟩,(rdOs g (rd1 (rd1 (rd1 s).2).2).2).2):=rfl
theorem bd12 (g:Int→Int) (fr to_:GAddr) (s:St):rdBd g 12 fr to_ s=(⟨12,fr,to_,zBa,0,[],zEn,0,zV,0,0,[],(rdE g s).1,zPt⟩,(rdE g s).2):=rfl
theorem bd13 (g:Int→Int) (fr to_:GAddr) (s:St):rdBd g 13 fr to_ s=(⟨13,fr,to_,zBa,0,[],zEn,0,zV,0,0,[],zEp,(rdP g s).1⟩,(rdP g s).2):=rfl
theorem bd14 (g:Int→Int) (fr to_:GAddr) (s:St):rdBd g 14 fr to_ s=(⟨14,fr,to_,zBa,0,[],zEn,(rd1 s).1,(rdv id z8 (rd1 s).2 8).2,0,0,[],zEp,zPt⟩,(rdv id z8 (rd1 s).2 8).1):=rfl
theorem bd15 (g:Int→Int) (fr to_:GAddr) (s:St):rdBd g 15 fr to_ s=(⟨15,fr,to_,zBa,(rd1 s).1,[],zEn,0,zV,0,0,[],zEp,(rdP g (rd1 s).2).1⟩,(rdP g (rd1 s).2).2):=rfl
theorem bd_not (g:Int→Int) {k:Int} (hk:¬ (1≤k∧k≤15)) (fr to_:GAddr) (s:St):rdBd g k fr to_ s=(zM k fr to_,s):=by
  unfold rdBd
  rw [if_neg (by omega),if_neg (by omega),if_neg (by omega),if_neg (by omega),if_neg (by omega),if_neg (by omega),if_neg (by omega),if_neg (by omega),if_neg (by omega),if_neg (by omega),if_neg (by omega),if_neg (by omega),if_neg (by omega),if_neg (by omega),if_neg (by omega)]
theorem ztu (hN:4200≤N) (hB:okB B) (h:okR B s):z13 N s.1 ⟨true,s.2⟩=some ((rdSs sm s).1,(rdSs sm s).2.1,⟨true,(rdSs sm s).2.2⟩):=by
  unfold z13 rdSs
  rw [z123 (by omega) hB h]
  simp only [Option.bind_some]
  have hr:=zsl s
  have h1:=zyz h
  generalize rdN s=p at *
  obtain ⟨n,t⟩:=p
  simp only at hr h1 ⊢
  refine z2i (fun q:z2l=>0≤q.t7∧q.t7≤n∧(q.l.length:Int)=q.t7∧q.b1.made=true∧okR B (q.b0,q.b1.b)∧rdL (rdSl sm) (n - q.t7).toNat q.l (q.b0,q.b1.b)=rdL (rdSl sm) n.toNat [] t) (fun q=>(n - q.t7).toNat) ?_ N _ ⟨by simp,hr.1,by simp,rfl,h1,by simp⟩ (by simp only; omega)
  rintro ⟨l,i,e,⟨m,c⟩⟩ nx ⟨g0,g1,g2,g3,g4,hq⟩ ih
  simp only at g0 g1 g2 g3 g4 hq ih ⊢
  subst g3
  by_cases hi:i < n
  · obtain ⟨j,hj⟩:∃ j,(n - i).toNat=j+1:=⟨(n - i).toNat - 1,by omega⟩
    rw [hj,zv8] at hq
    by_cases he:e=0
    · subst he
      simp only [ne_eq,not_true_eq_false,if_false] at hq
      rw [decide_eq_true hi]
      simp only [cond_true,beq_self_eq_true,Bool.not_true,cond_false]
      unfold z8y
      have h2:=z17 g4
      have h3:=zh1 sm h2
      rw [z7g (s:=((0:Int),c)) (by omega) hB g4]
      simp only [Option.bind_some]
      rw [zc4 (by omega) hB h2]
      simp only [Option.bind_some]
      rw [zz0 hN hB h3]
      simp only [Option.bind_some]
      rw [zd6 (by simp only [List.length_cons,List.length_nil]; omega),z20 (by omega) (by omega),cond_true]
      refine ih ⟨_,i+1,_,⟨true,_⟩⟩ ⟨by simp; omega,by simp; omega,by simp; omega,rfl,z13b sm g4,?_⟩ (by simp; omega)
      simp only
      rw [show (n - (i+1)).toNat=j by omega]; exact hq
    · simp only [ne_eq,he,not_false_eq_true,if_true] at hq
      have eb:(e==0)=false:=by simpa using he
      rw [decide_eq_true hi,eb]
      simp only [cond_true,Bool.not_false]
      rw [← hq]
  · rw [decide_eq_false hi]
    rw [show (n - i).toNat=0 by omega,z10e] at hq
    simp only [cond_false]
    rw [← hq]
theorem zua (hN:11≤N) (hB:okB B) (h:okR B s) (a1:Int) (a2 a3:GAddr) (a4:zu) (a5:Int) (a6:List zc) (a7:z9) (a8:Int) (v:Vector Int 8) (a10 a11:Int) (a12:List GOp) (a13:za) (a14:GPart) :
    z1j N s.1 ⟨a1,a2,a3,a4,a5,a6,a7,a8,v,a10,a11,a12,a13,a14⟩ ⟨true,s.2⟩ =
    some ((rdv id v s 8).1.1,⟨a1,a2,a3,a4,a5,a6,a7,a8,(rdv id v s 8).2,a10,a11,a12,a13,a14⟩,⟨true,(rdv id v s 8).1.2⟩):=by
  unfold z1j
  rw [show (⟨0,s.1,⟨a1,a2,a3,a4,a5,a6,a7,a8,v,a10,a11,a12,a13,a14⟩,⟨true,s.2⟩⟩:z1r)=(fun k:Nat=>(⟨(k:Int),(rdv id v s k).1.1,⟨a1,a2,a3,a4,a5,a6,a7,a8,(rdv id v s k).2,a10,a11,a12,a13,a14⟩,⟨true,(rdv id v s k).1.2⟩⟩:z1r)) 0 from rfl]
  rw [zoj (fun k:Nat=>(⟨(k:Int),(rdv id v s k).1.1,⟨a1,a2,a3,a4,a5,a6,a7,a8,(rdv id v s k).2,a10,a11,a12,a13,a14⟩,⟨true,(rdv id v s k).1.2⟩⟩:z1r)) 8 (fun _=>none) (some ((rdv id v s 8).1.1,⟨a1,a2,a3,a4,a5,a6,a7,a8,(rdv id v s 8).2,a10,a11,a12,a13,a14⟩,⟨true,(rdv id v s 8).1.2⟩)) ?_ ?_ N (by omega)]
  · exact zom _
  · intro k next hk
    simp only [zgz hk,z3x (show (0:Int)≤k by omega) (show (k:Int) < 8 by omega),cond_true]
    rw [z7g hN hB (zh0 h id v k),Option.bind_some,z20 (by omega) (by omega),Int.toNat_natCast]
    rfl
  · intro next; rfl
theorem z129 (hN:4200≤N) (hB:okB B) (h:okR B s) (k:Int) (fr to_:GAddr):z3q N s.1 ⟨k,fr,to_,zBa,0,[],zEn,0,zV,0,0,[],zEp,zPt⟩ ⟨true,s.2⟩ =
    some ((rdBd sm k fr to_ s).2.1,(rdBd sm k fr to_ s).1,⟨true,(rdBd sm k fr to_ s).2.2⟩):=by
  have hN':11≤N:=by omega
  unfold z3q
  by_cases hk:1≤k∧k≤15
  · have hk':k=1∨k=2∨k=3∨k=4∨k=5∨k=6∨k=7∨k=8∨k=9∨k=10∨k=11∨k=12∨k=13∨k=14∨k=15:=by omega
    rcases hk' with rfl | rfl | rfl | rfl | rfl | rfl | rfl | rfl | rfl | rfl | rfl | rfl | rfl | rfl | rfl
    · rw [bd1]
      simp only [Int.reduceBEq,cond_true,cond_false]
      unfold zf
      have h1:=zh1 sm h
      have h2:=z17 h1
      rw [zc4 hN' hB h]
      simp only [Option.bind_some]
      rw [z7g hN' hB h1]
      rfl
    · rw [bd2]
      simp only [Int.reduceBEq,cond_true,cond_false]
      unfold zf
      have h1:=zh1 sm h
      have h2:=z17 h1
      have h3:=z13c sm h2
      rw [zc4 hN' hB h]
      simp only [Option.bind_some]
      rw [z7g hN' hB h1]
      simp only [Option.bind_some]
      rw [ztu hN hB h2]
      rfl
    · rw [bd3]
      simp only [Int.reduceBEq,cond_true,cond_false]
      have h1:=zh1 sm h
      have h2:=z13c sm h1
      rw [zc4 hN' hB h]
      simp only [Option.bind_some]
      rw [ztu hN hB h1]
      rfl
    · rw [bd4]
      simp only [Int.reduceBEq,cond_true,cond_false]
      unfold zf
      have h1:=zh1 sm h
      have h2:=z17 h1
      rw [zc4 hN' hB h]
      simp only [Option.bind_some]
      rw [z7g hN' hB h1]
      rfl
    · rw [bd5]
      simp only [Int.reduceBEq,cond_true,cond_false]
      have h1:=zh1 sm h
      rw [zc4 hN' hB h]
      rfl
    · rw [bd6]
      simp only [Int.reduceBEq,cond_true,cond_false]
      have h1:=z13c sm h
      rw [ztu hN hB h]
      rfl
    · rw [bd7]
      simp only [Int.reduceBEq,cond_true,cond_false]
      unfold zf
      have h1:=zh1 sm h
      have h2:=z17 h1
      rw [zc4 hN' hB h]
      simp only [Option.bind_some]
      rw [z7g hN' hB h1]
      rfl
    · rw [bd8]
      simp only [Int.reduceBEq,cond_true,cond_false]
      unfold zf
      have h1:=z17 h
      rw [z7g hN' hB h]
      rfl
    · rw [bd9]
      simp only [Int.reduceBEq,cond_true,cond_false]
      have h1:=rdEn_ok sm h
      rw [zz0 hN hB h]
      rfl
    · rw [bd10]
      simp only [Int.reduceBEq,cond_true,cond_false]
      unfold zz z3p
      have h1:=z17 h
      have h2:=zh0 h1 id z8 8
      have h3:=z17 h2
      rw [z7g hN' hB h]
      simp only [Option.bind_some]
      rw [zua hN' hB h1]
      simp only [Option.bind_some]
      change ((zd N (rdv id z8 _ 8).1.1 ⟨true,(rdv id z8 _ 8).1.2⟩).bind _).bind _=_
      rw [z7g hN' hB h2]
      rfl
    · rw [bd11]
      simp only [Int.reduceBEq,cond_true,cond_false]
      unfold zz z36 zf
      have h1:=z17 h
      have h2:=z17 h1
      have h3:=z17 h2
      have h4:=rdOs_ok sm h3
      rw [z7g hN' hB h]
      simp only [Option.bind_some]
      rw [z3g hN' hB h1]
      simp only [Option.bind_some]
      rw [z7g hN' hB h2]
      simp only [Option.bind_some]
      rw [z14g hN hB h3]
      rfl
    · rw [bd12]
      simp only [Int.reduceBEq,cond_true,cond_false]
      have h1:=rdE_ok sm h
      rw [z144 hN' hB h]
      rfl
    · rw [bd13]
      simp only [Int.reduceBEq,cond_true,cond_false]
      have h1:=rdP_ok sm h
      rw [zxi hN' hB h]
      rfl
    · rw [bd14]
      simp only [Int.reduceBEq,cond_true,cond_false]
      unfold zz
      have h1:=z17 h
      have h2:=zh0 h1 id z8 8
      rw [z7g hN' hB h]
      simp only [Option.bind_some]
      rw [zua hN' hB h1]
      rfl
    · rw [bd15]
      simp only [Int.reduceBEq,cond_true,cond_false]
      unfold zf
      have h1:=z17 h
      have h2:=rdP_ok sm h1
      rw [z7g hN' hB h]
      simp only [Option.bind_some]
      rw [zxi hN' hB h1]
      rfl
  · rw [bd_not sm hk]
    have hb:∀ j:Int,1≤j∧j≤15→(k==j)=false:=fun j hj=>by
      have:k≠j:=fun e=>hk (by omega)
      simpa using this
    rw [hb 1 (by omega),cond_false,hb 4 (by omega),cond_false,hb 7 (by omega),cond_false,hb 2 (by omega),cond_false,hb 3 (by omega),cond_false,hb 5 (by omega),cond_false,hb 6 (by omega),cond_false,hb 8 (by omega),cond_false,hb 9 (by omega),cond_false,hb 10 (by omega),cond_false,hb 11 (by omega),cond_false,hb 12 (by omega),cond_false,hb 13 (by omega),cond_false,hb 14 (by omega),cond_false,hb 15 (by omega),cond_false]
    rfl
theorem z12a (hN:11≤N) (hB:okB B) (h:okR B s) (a1:Int) (a2 a3:GAddr) (a4:zu) (a5:Int) (a6:List zc) (a7:z9) (a8:Int) (v:Vector Int 8) (a10 a11:Int) (a12:List GOp) (a13:za) (a14:GPart) :
    z1z N s.1 ⟨a1,a2,a3,a4,a5,a6,a7,a8,v,a10,a11,a12,a13,a14⟩ ⟨true,s.2⟩ =
    some ((rdAd sm (rdAd sm s).2).2.1,⟨a1,(rdAd sm s).1,(rdAd sm (rdAd sm s).2).1,a4,a5,a6,a7,a8,v,a10,a11,a12,a13,a14⟩,⟨true,(rdAd sm (rdAd sm s).2).2.2⟩):=by
  have h1:=z17 h
  have h2:=z17 h1
  have h3:=z17 h2
  unfold z1z
  rw [z3g hN hB h]
  simp only [Option.bind_some]
  rw [z3g hN hB h1]
  simp only [Option.bind_some]
  rw [z3g hN hB h2]
  simp only [Option.bind_some]
  rw [z3g hN hB h3]
  rfl
theorem z12b (hN:4200≤N) (hB:okB B) (h:okR B s):z44 N s.1 ⟨true,s.2⟩=some ((rdMs sm s).1,(rdMs sm s).2.1,⟨true,(rdMs sm s).2.2⟩):=by
  have hN':11≤N:=by omega
  have h1:=z17 h
  unfold z44 z7h rdMs
  rw [z3g hN' hB h]
  simp only [Option.bind_some]
  by_cases hc:(rd1 s).2.1=0∧(sm (rd1 s).1 < 1∨15 < sm (rd1 s).1)
  · have e1:(((rd1 s).2.1==0)&&(decide (sm (rd1 s).1 < 1) || decide (15 < sm (rd1 s).1)))=true:=by simpa using hc
    rw [if_pos hc,e1,cond_true]
    have h2:okR B ((40:Int),(rd1 s).2.2):=h1
    have h3:=ztt sm h2
    have h4:=ztt sm h3
    have:=z12a hN' hB h2 (sm (rd1 s).1) ⟨0,0⟩ ⟨0,0⟩ zBa 0 [] zEn 0 zV 0 0 [] zEp zPt
    simp only at this
    change ((z1z N 40 ⟨sm (rd1 s).1,⟨0,0⟩,⟨0,0⟩,zBa,0,[],zEn,0,zV,0,0,[],zEp,zPt⟩ ⟨true,(rd1 s).2.2⟩).bind _)=_
    rw [this]
    simp only [Option.bind_some]
    rw [z129 hN hB h4]
    rfl
  · have e1:(((rd1 s).2.1==0)&&(decide (sm (rd1 s).1 < 1) || decide (15 < sm (rd1 s).1)))=false:=by
      rw [Bool.eq_false_iff]; intro h; exact hc (by simpa using h)
    rw [if_neg hc,e1,cond_false]
    have h3:=ztt sm h1
    have h4:=ztt sm h3
    have:=z12a hN' hB h1 (sm (rd1 s).1) ⟨0,0⟩ ⟨0,0⟩ zBa 0 [] zEn 0 zV 0 0 [] zEp zPt
    change ((z1z N (rd1 s).2.1 ⟨sm (rd1 s).1,⟨0,0⟩,⟨0,0⟩,zBa,0,[],zEn,0,zV,0,0,[],zEp,zPt⟩ ⟨true,(rd1 s).2.2⟩).bind _)=_
    rw [this]
    simp only [Option.bind_some]
    rw [z129 hN hB h4]
    rfl
end
section
variable {N:Nat} {B:List Int} {s:St} {g:Int→Int}
theorem slF (x:zc):slB x=pI x.Slot++((baC x.Ballot).flatten++enB x.Entry):=by
  rw [slB_eq,z14f]; simp
theorem rdSl_back (hg:SmOk g) {x:zc} (hx:MaySl x) (rest:List Int):rdSl g (0,slB x++rest)=(x,(0,rest)):=by
  obtain ⟨a,b,c⟩:=x
  obtain ⟨m1,m2,m3⟩:=hx
  rw [slF]
  simp only [List.append_assoc]
  unfold rdSl
  simp only [z16 (cnt64 m1),zh2 hg m2,z128 hg m3]
theorem zxj (hg:SmOk g) {l:List zc} (hl:l.length≤4096) (h:∀ x∈l,MaySl x) (rest:List Int):rdSs g (0,(lsC l).flatten++rest)=(l,(0,rest)):=by
  unfold rdSs
  rw [lsC_flat,List.append_assoc]
  simp only [List.map_cons,List.map_nil,List.flatten_cons,List.flatten_nil,List.append_nil]
  rw [z14h hl]
  simp only [Int.toNat_natCast]
  rw [z10g (C:=slB) l [] rest fun x hx r=>rdSl_back hg (h x hx) r]
  rfl
theorem z12c (hg:SmOk g) {a:GAddr} (h:MayAd a) (rest:List Int):rdAd g (0,pI a.Group++(pI a.Replica++rest))=(a,(0,rest)):=by
  have hr:=ad64 h
  obtain ⟨x,y⟩:=a
  obtain ⟨⟨m1,m2⟩,m3,m4⟩:=h
  simp only at m1 m2 m3 m4 hr
  unfold rdAd
  simp only [z16 hr.1,z16 hr.2,hg.of x (by omega),hg.of y (by omega)]
theorem z13d {α:Type} {f:St→α×St} {P:α→Prop} (hok:∀ {s},okR B s→okR B (f s).2) (hf:∀ {s},okR B s→P (f s).1):∀ (n:Nat) (l:List α) (s:St),okR B s→(∀ x∈l,P x)→(∀ x∈(rdL f n l s).1,P x)∧(rdL f n l s).1.length≤l.length+n
  | 0,l,s,h,hl=>⟨hl,Nat.le_refl _⟩
  | n + 1, l, s, h, hl => by
    rw [zv8]
    by_cases hs:s.1≠0
    · rw [if_pos hs]; exact ⟨fun x hx=>absurd hx (by simp),Nat.zero_le _⟩
    · rw [if_neg hs]
      obtain ⟨h1,h2⟩:=z13d hok hf n (l++[(f s).1]) (f s).2 (hok h) fun x hx=>by
        rcases List.mem_append.1 hx with hx | hx
        · exact hl x hx
        · simp at hx; subst hx; exact hf h
      exact ⟨h1,by simp only [List.length_append,List.length_cons,List.length_nil] at h2; omega⟩
theorem z14i (h:okR B s):(rdOs g s).1.length≤4096:=by
  have hr:=zsl s
  have:=(z13d (B:=B) (f:=rdO g) (P:=fun _=>True) (fun h=>rdO_ok g h) (fun _=>trivial) (rdN s).1.toNat [] (rdN s).2 (zyz h) (by simp)).2
  unfold rdOs
  simp only [List.length_nil] at this
  omega
theorem z13e (hB:okB B) (h:okR B s):byt (rdD s).1:=by
  unfold rdD
  split
  · have hb:=(zr6 hB h).2
    by_cases he:(rB s.2).2.1=0
    · obtain ⟨h1,h2⟩:=rB_one hb he
      exact fun x hx=>hb x (by rw [h1]; simp only at hx; simp [hx])
    · unfold rB at he ⊢
      intro x hx
      simp only at hx
      split at hx
      · cases hx
      · split at hx
        · cases hx
        · split at hx
          · cases hx
          · exact hb x (List.mem_of_mem_drop (List.mem_of_mem_take hx))
  · exact fun x hx=>by cases hx
def roomE (e:z9):Prop:=e.Ops.length≤4096∧byt e.Part.Data
theorem roomE.of {N:Nat} {e:z9} (h:roomE e) (hN:4200≤N):e.Ops.length+20≤N∧e.Ops.length≤9223372036854775807∧byt e.Part.Data:=⟨by have:=h.1; omega,by have:=h.1; omega,h.2⟩
theorem z12d (hB:okB B) (h:okR B s):roomE (rdEn g s).1:=by
  have h1:=z17 h
  have b0:byt []:=fun x hx=>by cases hx
  unfold rdEn
  simp only
  split; · exact ⟨by simp [zE],b0⟩
  split; · exact ⟨by simp [zE],b0⟩
  split; · exact ⟨by simp,b0⟩
  split; · exact ⟨z14i (z17 (z17 h1)),b0⟩
  split; · exact ⟨by simp,b0⟩
  split; · exact ⟨by simp,b0⟩
  split; · exact ⟨by simp,z13e hB (z17 (z17 (z17 h1)))⟩
  split; · exact ⟨by simp,b0⟩
  split; · exact ⟨by simp,b0⟩
  split; · exact ⟨by simp,b0⟩
  exact ⟨by simp [zE],b0⟩
theorem zxk (hB:okB B) (h:okR B s):(rdSs g s).1.length≤4096∧∀ x∈(rdSs g s).1,roomE x.Entry:=by
  have hr:=zsl s
  have:=z13d (B:=B) (f:=rdSl g) (P:=fun x=>roomE x.Entry) (fun h=>z13b g h) (fun h=>z12d hB (zh1 g (z17 h))) (rdN s).1.toNat [] (rdN s).2 (zyz h) (by simp)
  unfold rdSs
  refine ⟨?_,this.1⟩
  have:=this.2
  simp only [List.length_nil] at this
  omega
theorem z10i {l:List zc} (hN:4200≤N) (h:l.length≤4096∧∀ x∈l,roomE x.Entry):roomS N l:=⟨by omega,by omega,fun x hx=>(h.2 x hx).of hN⟩
theorem rdBd_room (hN:4200≤N) (hB:okB B) (h:okR B s) (k:Int) (fr to_:GAddr):roomM N (rdBd g k fr to_ s).1:=by
  have r1:roomS N ([]:List zc):=⟨by simp; omega,by simp,fun x hx=>by cases hx⟩
  have r2:zEn.Ops.length+20≤N∧zEn.Ops.length≤9223372036854775807∧byt zEn.Part.Data:=⟨by simp [zEn]; omega,by simp [zEn],fun x hx=>by cases hx⟩
  have r3:([]:List GOp).length+20≤N∧([]:List GOp).length≤9223372036854775807:=⟨by simp; omega,by simp⟩
  have r4:byt zPt.Data:=fun x hx=>by cases hx
  have ro:∀ {s:St},okR B s→(rdOs g s).1.length+20≤N∧(rdOs g s).1.length≤9223372036854775807:=fun h=>by have:=z14i (g:=g) h; exact ⟨by omega,by omega⟩
  by_cases hk:1≤k∧k≤15
  · have hk':k=1∨k=2∨k=3∨k=4∨k=5∨k=6∨k=7∨k=8∨k=9∨k=10∨k=11∨k=12∨k=13∨k=14∨k=15:=by omega
    rcases hk' with rfl | rfl | rfl | rfl | rfl | rfl | rfl | rfl | rfl | rfl | rfl | rfl | rfl | rfl | rfl
    · rw [bd1]; exact ⟨r1,r2,r3,r4⟩
    · rw [bd2]; exact ⟨z10i hN (zxk hB ((z17 (zh1 g h)))),r2,r3,r4⟩
    · rw [bd3]; exact ⟨z10i hN (zxk hB ((zh1 g h))),r2,r3,r4⟩
    · rw [bd4]; exact ⟨r1,r2,r3,r4⟩
    · rw [bd5]; exact ⟨r1,r2,r3,r4⟩
    · rw [bd6]; exact ⟨z10i hN (zxk hB (h)),r2,r3,r4⟩
    · rw [bd7]; exact ⟨r1,r2,r3,r4⟩
    · rw [bd8]; exact ⟨r1,r2,r3,r4⟩
    · rw [bd9]; exact ⟨r1,(z12d hB (h)).of hN,r3,r4⟩
    · rw [bd10]; exact ⟨r1,r2,r3,r4⟩
    · rw [bd11]; exact ⟨r1,r2,ro ((z17 (z17 (z17 h)))),r4⟩
    · rw [bd12]; exact ⟨r1,r2,r3,r4⟩
    · rw [bd13]; exact ⟨r1,r2,r3,z13e hB (z17 (z17 (z17 (h))))⟩
    · rw [bd14]; exact ⟨r1,r2,r3,r4⟩
    · rw [bd15]; exact ⟨r1,r2,r3,z13e hB (z17 (z17 (z17 ((z17 h)))))⟩
  · rw [bd_not g hk]; exact ⟨r1,r2,r3,r4⟩
theorem rdMs_room (hN:4200≤N) (hB:okB B) (h:okR B s):roomM N (rdMs g s).1:=by
  unfold rdMs
  refine rdBd_room hN hB (ztt g (ztt g ?_)) _ _ _
  split
  · exact z17 h
  · exact z17 h
theorem msF (m:GMsg):msB m=pI m.Kind++(pI m.From.Group++(pI m.From.Replica++(pI m.To.Group++(pI m.To.Replica++(bdC m).flatten)))):=by
  unfold msB msC hdC
  simp only [List.map_cons,List.map_nil,List.flatten_append,List.flatten_cons,List.flatten_nil,List.append_nil,List.append_assoc]
theorem bdF1 {m:GMsg} (h:m.Kind=1):(bdC m).flatten=(baC m.Ballot).flatten++(pI m.Slot):=by
  unfold bdC; rw [h]; simp only [Int.reduceBEq,cond_true,cond_false,enB,List.map_cons,List.map_nil,List.flatten_append,List.flatten_cons,List.flatten_nil,List.append_nil,List.append_assoc]
theorem bdF2 {m:GMsg} (h:m.Kind=2):(bdC m).flatten=(baC m.Ballot).flatten++(pI m.Slot++((lsC m.List_).flatten)):=by
  unfold bdC; rw [h]; simp only [Int.reduceBEq,cond_true,cond_false,enB,List.map_cons,List.map_nil,List.flatten_append,List.flatten_cons,List.flatten_nil,List.append_nil,List.append_assoc]
theorem bdF3 {m:GMsg} (h:m.Kind=3):(bdC m).flatten=(baC m.Ballot).flatten++((lsC m.List_).flatten):=by
  unfold bdC; rw [h]; simp only [Int.reduceBEq,cond_true,cond_false,enB,List.map_cons,List.map_nil,List.flatten_append,List.flatten_cons,List.flatten_nil,List.append_nil,List.append_assoc]
theorem bdF4 {m:GMsg} (h:m.Kind=4):(bdC m).flatten=(baC m.Ballot).flatten++(pI m.Slot):=by
  unfold bdC; rw [h]; simp only [Int.reduceBEq,cond_true,cond_false,enB,List.map_cons,List.map_nil,List.flatten_append,List.flatten_cons,List.flatten_nil,List.append_nil,List.append_assoc]
theorem bdF5 {m:GMsg} (h:m.Kind=5):(bdC m).flatten=(baC m.Ballot).flatten:=by
  unfold bdC; rw [h]; simp only [Int.reduceBEq,cond_true,cond_false,enB,List.map_cons,List.map_nil,List.flatten_append,List.flatten_cons,List.flatten_nil,List.append_nil,List.append_assoc]
theorem bdF6 {m:GMsg} (h:m.Kind=6):(bdC m).flatten=(lsC m.List_).flatten:=by
  unfold bdC; rw [h]; simp only [Int.reduceBEq,cond_true,cond_false,enB,List.map_cons,List.map_nil,List.flatten_append,List.flatten_cons,List.flatten_nil,List.append_nil,List.append_assoc]
theorem bdF7 {m:GMsg} (h:m.Kind=7):(bdC m).flatten=(baC m.Ballot).flatten++(pI m.Slot):=by
  unfold bdC; rw [h]; simp only [Int.reduceBEq,cond_true,cond_false,enB,List.map_cons,List.map_nil,List.flatten_append,List.flatten_cons,List.flatten_nil,List.append_nil,List.append_assoc]
theorem bdF8 {m:GMsg} (h:m.Kind=8):(bdC m).flatten=pI m.Slot:=by
  unfold bdC; rw [h]; simp only [Int.reduceBEq,cond_true,cond_false,enB,List.map_cons,List.map_nil,List.flatten_append,List.flatten_cons,List.flatten_nil,List.append_nil,List.append_assoc]
theorem bdF9 {m:GMsg} (h:m.Kind=9):(bdC m).flatten=enB m.Entry:=by
  unfold bdC; rw [h]; simp only [Int.reduceBEq,cond_true,cond_false,enB,List.map_cons,List.map_nil,List.flatten_append,List.flatten_cons,List.flatten_nil,List.append_nil,List.append_assoc]
theorem bdF10 {m:GMsg} (h:m.Kind=10):(bdC m).flatten=pI m.Number++((m.Vector_.toList.map pI).flatten++(pI m.Clock)):=by
  unfold bdC; rw [h]; simp only [Int.reduceBEq,cond_true,cond_false,enB,List.map_cons,List.map_nil,List.flatten_append,List.flatten_cons,List.flatten_nil,List.append_nil,List.append_assoc]
theorem bdF11 {m:GMsg} (h:m.Kind=11):(bdC m).flatten=pI m.Number++(pI m.Origin++(pI m.Slot++((opsC m.Ops).flatten))):=by
  unfold bdC; rw [h]; simp only [Int.reduceBEq,cond_true,cond_false,enB,List.map_cons,List.map_nil,List.flatten_append,List.flatten_cons,List.flatten_nil,List.append_nil,List.append_assoc]
theorem bdF12 {m:GMsg} (h:m.Kind=12):(bdC m).flatten=(epC m.Epoch).flatten:=by
  unfold bdC; rw [h]; simp only [Int.reduceBEq,cond_true,cond_false,enB,List.map_cons,List.map_nil,List.flatten_append,List.flatten_cons,List.flatten_nil,List.append_nil,List.append_assoc]
theorem bdF13 {m:GMsg} (h:m.Kind=13):(bdC m).flatten=(ptC m.Part).flatten:=by
  unfold bdC; rw [h]; simp only [Int.reduceBEq,cond_true,cond_false,enB,List.map_cons,List.map_nil,List.flatten_append,List.flatten_cons,List.flatten_nil,List.append_nil,List.append_assoc]
theorem bdF14 {m:GMsg} (h:m.Kind=14):(bdC m).flatten=pI m.Number++((m.Vector_.toList.map pI).flatten):=by
  unfold bdC; rw [h]; simp only [Int.reduceBEq,cond_true,cond_false,enB,List.map_cons,List.map_nil,List.flatten_append,List.flatten_cons,List.flatten_nil,List.append_nil,List.append_assoc]
theorem bdF15 {m:GMsg} (h:m.Kind=15):(bdC m).flatten=pI m.Slot++((ptC m.Part).flatten):=by
  unfold bdC; rw [h]; simp only [Int.reduceBEq,cond_true,cond_false,enB,List.map_cons,List.map_nil,List.flatten_append,List.flatten_cons,List.flatten_nil,List.append_nil,List.append_assoc]
theorem ob {n:Int} (h:sit n):-1≤n∧n≤2147483647:=by have:=h.1; have:=h.2; constructor<;>omega
theorem rdBd_back (hg:SmOk g) {m:GMsg} (hb:bytM m) (h:MayMs m) (rest:List Int):rdBd g m.Kind m.From m.To (0,(bdC m).flatten++rest)=(m,(0,rest)):=by
  have hs:=spP_of hb h.sp
  have hk':=z121 h.kind
  have hbare:=h.bare
  obtain ⟨kd,fr,to_,a4,a5,a6,a7,a8,a9,a10,a11,a12,a13,a14⟩:=m
  simp only at hk'
  rcases hk' with rfl | rfl | rfl | rfl | rfl | rfl | rfl | rfl | rfl | rfl | rfl | rfl | rfl | rfl | rfl
  · rw [bdF1 (m:=⟨1,fr,to_,a4,a5,a6,a7,a8,a9,a10,a11,a12,a13,a14⟩) rfl,bd1]
    replace hbare:(⟨1,fr,to_,a4,a5,a6,a7,a8,a9,a10,a11,a12,a13,a14⟩:GMsg)=⟨1,fr,to_,a4,a5,[],zEn,0,zV,0,0,[],zEp,zPt⟩:=hbare
    rw [hbare]
    simp only [List.append_assoc]
    simp only [zh2 hg h.ba,z16 (cnt64 h.slot)]
  · rw [bdF2 (m:=⟨2,fr,to_,a4,a5,a6,a7,a8,a9,a10,a11,a12,a13,a14⟩) rfl,bd2]
    replace hbare:(⟨2,fr,to_,a4,a5,a6,a7,a8,a9,a10,a11,a12,a13,a14⟩:GMsg)=⟨2,fr,to_,a4,a5,a6,zEn,0,zV,0,0,[],zEp,zPt⟩:=hbare
    rw [hbare]
    simp only [List.append_assoc]
    simp only [zh2 hg h.ba,z16 (cnt64 h.slot),zxj hg (hs.1 rfl).1 (hs.1 rfl).2]
  · rw [bdF3 (m:=⟨3,fr,to_,a4,a5,a6,a7,a8,a9,a10,a11,a12,a13,a14⟩) rfl,bd3]
    replace hbare:(⟨3,fr,to_,a4,a5,a6,a7,a8,a9,a10,a11,a12,a13,a14⟩:GMsg)=⟨3,fr,to_,a4,0,a6,zEn,0,zV,0,0,[],zEp,zPt⟩:=hbare
    rw [hbare]
    simp only [List.append_assoc]
    simp only [zh2 hg h.ba,zxj hg (hs.2.1 rfl).1 (hs.2.1 rfl).2]
  · rw [bdF4 (m:=⟨4,fr,to_,a4,a5,a6,a7,a8,a9,a10,a11,a12,a13,a14⟩) rfl,bd4]
    replace hbare:(⟨4,fr,to_,a4,a5,a6,a7,a8,a9,a10,a11,a12,a13,a14⟩:GMsg)=⟨4,fr,to_,a4,a5,[],zEn,0,zV,0,0,[],zEp,zPt⟩:=hbare
    rw [hbare]
    simp only [List.append_assoc]
    simp only [zh2 hg h.ba,z16 (cnt64 h.slot)]
  · rw [bdF5 (m:=⟨5,fr,to_,a4,a5,a6,a7,a8,a9,a10,a11,a12,a13,a14⟩) rfl,bd5]
    replace hbare:(⟨5,fr,to_,a4,a5,a6,a7,a8,a9,a10,a11,a12,a13,a14⟩:GMsg)=⟨5,fr,to_,a4,0,[],zEn,0,zV,0,0,[],zEp,zPt⟩:=hbare
    rw [hbare]
    simp only [List.append_assoc]
    simp only [zh2 hg h.ba]
  · rw [bdF6 (m:=⟨6,fr,to_,a4,a5,a6,a7,a8,a9,a10,a11,a12,a13,a14⟩) rfl,bd6]
    replace hbare:(⟨6,fr,to_,a4,a5,a6,a7,a8,a9,a10,a11,a12,a13,a14⟩:GMsg)=⟨6,fr,to_,zBa,0,a6,zEn,0,zV,0,0,[],zEp,zPt⟩:=hbare
    rw [hbare]
    simp only [List.append_assoc]
    simp only [zxj hg (hs.2.2.1 rfl).1 (hs.2.2.1 rfl).2]
  · rw [bdF7 (m:=⟨7,fr,to_,a4,a5,a6,a7,a8,a9,a10,a11,a12,a13,a14⟩) rfl,bd7]
    replace hbare:(⟨7,fr,to_,a4,a5,a6,a7,a8,a9,a10,a11,a12,a13,a14⟩:GMsg)=⟨7,fr,to_,a4,a5,[],zEn,0,zV,0,0,[],zEp,zPt⟩:=hbare
    rw [hbare]
    simp only [List.append_assoc]
    simp only [zh2 hg h.ba,z16 (cnt64 h.slot)]
  · rw [bdF8 (m:=⟨8,fr,to_,a4,a5,a6,a7,a8,a9,a10,a11,a12,a13,a14⟩) rfl,bd8]
    replace hbare:(⟨8,fr,to_,a4,a5,a6,a7,a8,a9,a10,a11,a12,a13,a14⟩:GMsg)=⟨8,fr,to_,zBa,a5,[],zEn,0,zV,0,0,[],zEp,zPt⟩:=hbare
    rw [hbare]
    simp only [List.append_assoc]
    simp only [z16 (cnt64 h.slot)]
  · rw [bdF9 (m:=⟨9,fr,to_,a4,a5,a6,a7,a8,a9,a10,a11,a12,a13,a14⟩) rfl,bd9]
    replace hbare:(⟨9,fr,to_,a4,a5,a6,a7,a8,a9,a10,a11,a12,a13,a14⟩:GMsg)=⟨9,fr,to_,zBa,0,[],a7,0,zV,0,0,[],zEp,zPt⟩:=hbare
    rw [hbare]
    simp only [List.append_assoc]
    simp only [z128 hg (hs.2.2.2.1 rfl)]
  · rw [bdF10 (m:=⟨10,fr,to_,a4,a5,a6,a7,a8,a9,a10,a11,a12,a13,a14⟩) rfl,bd10]
    replace hbare:(⟨10,fr,to_,a4,a5,a6,a7,a8,a9,a10,a11,a12,a13,a14⟩:GMsg)=⟨10,fr,to_,zBa,0,[],zEn,a8,a9,a10,0,[],zEp,zPt⟩:=hbare
    rw [hbare]
    simp only [List.append_assoc]
    simp only [z16 (cnt64 h.number),zlk (fun n hn=>cnt64 (h.vec n hn)),z16 (cnt64 h.clock)]
  · rw [bdF11 (m:=⟨11,fr,to_,a4,a5,a6,a7,a8,a9,a10,a11,a12,a13,a14⟩) rfl,bd11]
    replace hbare:(⟨11,fr,to_,a4,a5,a6,a7,a8,a9,a10,a11,a12,a13,a14⟩:GMsg)=⟨11,fr,to_,zBa,a5,[],zEn,a8,zV,0,a11,a12,zEp,zPt⟩:=hbare
    have q:=hs.2.2.2.2.1 rfl
    simp only at q
    rw [hbare]
    simp only [List.append_assoc]
    simp only [z16 (cnt64 h.number),z16 (sit64 q.1),hg.of _ (ob q.1),z16 (cnt64 h.slot),z126 hg q.2.2.1 q.2.2.2]
  · rw [bdF12 (m:=⟨12,fr,to_,a4,a5,a6,a7,a8,a9,a10,a11,a12,a13,a14⟩) rfl,bd12]
    replace hbare:(⟨12,fr,to_,a4,a5,a6,a7,a8,a9,a10,a11,a12,a13,a14⟩:GMsg)=⟨12,fr,to_,zBa,0,[],zEn,0,zV,0,0,[],a13,zPt⟩:=hbare
    rw [hbare]
    simp only [List.append_assoc]
    simp only [z127 hg (hs.2.2.2.2.2.1 rfl)]
  · rw [bdF13 (m:=⟨13,fr,to_,a4,a5,a6,a7,a8,a9,a10,a11,a12,a13,a14⟩) rfl,bd13]
    replace hbare:(⟨13,fr,to_,a4,a5,a6,a7,a8,a9,a10,a11,a12,a13,a14⟩:GMsg)=⟨13,fr,to_,zBa,0,[],zEn,0,zV,0,0,[],zEp,a14⟩:=hbare
    rw [hbare]
    simp only [List.append_assoc]
    simp only [z10h hg (hs.2.2.2.2.2.2.1 rfl)]
  · rw [bdF14 (m:=⟨14,fr,to_,a4,a5,a6,a7,a8,a9,a10,a11,a12,a13,a14⟩) rfl,bd14]
    replace hbare:(⟨14,fr,to_,a4,a5,a6,a7,a8,a9,a10,a11,a12,a13,a14⟩:GMsg)=⟨14,fr,to_,zBa,0,[],zEn,a8,a9,0,0,[],zEp,zPt⟩:=hbare
    rw [hbare]
    simp only [List.append_assoc]
    simp only [z16 (cnt64 h.number),zlk (fun n hn=>cnt64 (h.vec n hn))]
  · rw [bdF15 (m:=⟨15,fr,to_,a4,a5,a6,a7,a8,a9,a10,a11,a12,a13,a14⟩) rfl,bd15]
    replace hbare:(⟨15,fr,to_,a4,a5,a6,a7,a8,a9,a10,a11,a12,a13,a14⟩:GMsg)=⟨15,fr,to_,zBa,a5,[],zEn,0,zV,0,0,[],zEp,a14⟩:=hbare
    rw [hbare]
    simp only [List.append_assoc]
    simp only [z16 (cnt64 h.slot),z10h hg (hs.2.2.2.2.2.2.2 rfl)]
theorem rdMs_back (hg:SmOk g) {m:GMsg} (hb:bytM m) (h:MayMs m) (rest:List Int):rdMs g (0,msB m++rest)=(m,(0,rest)):=by
  have hk:=h.kind
  unfold kindM at hk
  rw [msF]
  simp only [List.append_assoc]
  unfold rdMs
  rw [z16 (k64 h.kind)]
  simp only [hg.of m.Kind (by omega)]
  rw [if_neg (by rintro ⟨_,h⟩; omega)]
  rw [z12c hg h.from_]
  simp only
  rw [z12c hg h.to_]
  simp only
  exact rdBd_back hg hb h rest
end
section
variable {N:Nat} {b:List Int}
theorem z14j (b:List Int):okR b (0,b):=List.suffix_refl b
theorem z12e (hl:b.length≤70368744177664):zch N b=some ⟨true,b⟩:=by
  unfold zch
  rw [zyv hl]; rfl
theorem rkeep_eq (e x:Int) (r:z4):z1h N e x r=some (if x=0 then e else x,r):=by
  unfold z1h
  by_cases h:x=0
  · rw [if_pos h,show (x==0)=true by simpa using h]; rfl
  · rw [if_neg h,show (x==0)=false by simpa using h]; rfl
theorem unB_frame {c:List Int} (hl:c.length≤1048576):unB (zbm c)=(c,((zbm c).length:Int),0):=by
  have hr:R64 (c.length:Int):=⟨by omega,by omega⟩
  have hp:pv 0 0 (zbm c)=((c.length:Int),((vint (zig (c.length:Int))).length:Int),0):=by
    unfold zbm; rw [List.append_assoc]; exact pv_zig hr _
  have hd:(zbm c).drop (vint (zig (c.length:Int))).length=c++four (sumB c):=by
    unfold zbm; rw [List.append_assoc]; exact List.drop_left
  have hlen:(zbm c).length=(vint (zig (c.length:Int))).length+c.length+4:=by
    unfold zbm; simp only [List.length_append,zv6]
  unfold unB
  rw [hp]
  generalize hv:vint (zig (c.length:Int))=v at *
  simp only
  rw [if_neg (by simp),if_neg (by omega),if_neg (by omega),if_neg (by omega)]
  have e1:(v.length:Int).toNat=v.length:=by omega
  have e2:((v.length:Int)+(c.length:Int)).toNat=v.length+c.length:=by omega
  have e3:(c.length:Int).toNat=c.length:=by omega
  rw [e1,e2,e3,hd,List.take_left,← List.drop_drop,hd,List.drop_left,if_pos (by rw [List.take_of_length_le (by rw [zv6]; omega)])]
  rw [hlen]
  congr 2
theorem unB_ok (hB:okB b):okB (unB b).1:=by
  have h0:okB ([]:List Int):=⟨by simp,by simp⟩
  unfold unB
  split; · exact h0
  split; · exact h0
  split; · exact h0
  split; · exact h0
  split
  · refine ⟨?_,fun x hx=>hB.2 x (List.mem_of_mem_drop (List.mem_of_mem_take hx))⟩
    have:=hB.1
    simp only [List.length_take,List.length_drop]; omega
  · exact h0
def zMsg:GMsg:=⟨0,⟨0,0⟩,⟨0,0⟩,zBa,0,[],zEn,0,zV,0,0,[],zEp,zPt⟩
def umM (b:List Int):GMsg×Int :=
  if (unB b).2.2≠0 then (zMsg,(unB b).2.2) else
  if (unB b).2.1 < (b.length:Int) then (zMsg,13) else
  let p:=rdMs sm (0,(unB b).1)
  let e:=if p.2.1=0 then (if 0 < (p.2.2.length:Int) then 13 else 0) else p.2.1
  if e=0 then (bif mayM p.1 then (p.1,0) else (zMsg,40)) else (zMsg,e)
theorem z12f (hN:4200≤N) (hN2:b.length+20≤N) (hB:okB b):zar N b=some (umM b):=by
  have hu:=unB_ok hB
  have hr:=rdMs_room (g:=sm) hN hu (z14j (unB b).1)
  unfold zar umM
  rw [F39_eq hN2 hB.1 hB.2,Option.bind_some]
  by_cases h1:(unB b).2.2≠0
  · rw [if_pos h1,show ((unB b).2.2==0)=false by simpa using h1]; rfl
  rw [if_neg h1,show ((unB b).2.2==0)=true by simpa using h1]
  simp only [Bool.not_true,cond_false]
  by_cases h2:(unB b).2.1 < (b.length:Int)
  · rw [if_pos h2,decide_eq_true h2]; rfl
  rw [if_neg h2,decide_eq_false h2,cond_false,z12e hu.1,Option.bind_some]
  have:=z12b hN hu (z14j (unB b).1)
  simp only at this
  rw [this,Option.bind_some,end_eq,Option.bind_some,rkeep_eq,Option.bind_some]
  generalize (if (rdMs sm (0,(unB b).1)).2.1=0 then (if 0 < ((rdMs sm (0,(unB b).1)).2.2.length:Int) then (13:Int) else 0) else (rdMs sm (0,(unB b).1)).2.1)=e
  by_cases he:e=0
  · rw [if_pos he,show (e==0)=true by simpa using he,cond_true,zxe (by omega) hr,Option.bind_some]
    cases mayM (rdMs sm (0,(unB b).1)).1<;>rfl
  · rw [if_neg he,show (e==0)=false by simpa using he]
    rfl
theorem umM_back {m:GMsg} (h:MayMs m) (hb:bytM m) (hl:(msB m).length≤1048576):umM (zbm (msB m))=(m,0):=by
  have:=rdMs_back sm_ok hb h []
  rw [List.append_nil] at this
  unfold umM
  rw [unB_frame hl]
  simp only [ne_eq,not_true_eq_false,if_false,Int.lt_irrefl,this,if_true,List.length_nil,Int.natCast_zero,(z10d hb).2 h,cond_true]
theorem zxl {c:List Int} (hl:c.length≤1048576):(zbm c).length≤1048590:=by
  have:=zfh (zyt (zsh (n:=c.length) hl))
  unfold zbm; simp only [List.length_append,zv6]; omega
theorem zz1 {m:GMsg} (h:bytM m):sameM m m=true:=(zoq h h).2 rfl
end
end Go.Proofs.YtddpmkmgbdedlaaGreat
