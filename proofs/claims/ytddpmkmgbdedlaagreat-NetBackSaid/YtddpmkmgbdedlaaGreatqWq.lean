/-
Plain laws of another seat,turned to this one by wip/tools/ren2.py.
-/
import Derived.Test.YtddpmkmgbdedlaaGreatqFn
import Derived.Test.YtddpmkmgbdedlaaGreatqTvT
import Derived.Test.YtddpmkmgbdedlaaGreatqWr
import Derived.KernelRfl
set_option linter.unusedVariables false
set_option linter.unusedSimpArgs false
namespace Go.Proofs.YtddpmkmgbdedlaaGreat
open Go Go.Ev
def sta (e:za) (i:Nat):Int:=vget e.States i default
def sea (e:za) (i:Nat):Int:=vget e.Seals i default
def spo (e:za) (i:Nat):Int:=vget e.Sponsor i default
def okP (e:za) (i:Nat):Prop :=
  0≤sta e i∧sta e i≤3∧0≤sea e i∧sea e i≤1099511627776∧(sta e i=3∨sea e i=0)∧((sta e i=0∧spo e i=-1)∨(sta e i≠0∧-1≤spo e i∧spo e i < 8∧spo e i≠i))
instance (e:za) (i:Nat):Decidable (okP e i):=by unfold okP; exact inferInstance
def okS (e:za) (i:Nat):Bool:=decide (okP e i)
def mem1 (e:za) (i:Nat):Bool:=sta e i==1
def chk (e:za):Bool:=decide (0≤e.Number)&&decide (e.Number < 1024)&&(List.range 8).all (okS e)&&(List.range 8).any (mem1 e)
theorem zom {n:Nat} {α:Type} (last:Option α):((List.range n).findSome? (fun _=>(none:Option (Option α)))).getD last=last:=by
  induction (List.range n) with
  | nil=>rfl
  | cons x l ih=>rw [List.findSome?_cons]; exact ih
theorem zgz {k:Nat} (h:k < 8):decide ((k:Int) < 8)=true:=by simp; omega
def z0:za:=⟨0,Vector.replicate 8 (default:Int),Vector.replicate 8 (default:Int),Vector.replicate 8 (default:Int)⟩
def lone (e:za) (s:Nat):Bool:=(List.range 8).all fun j=>j==s || !(mem1 e j)
def app' (e:za) (kind site sponsor length:Int):za×Int :=
  if chk e=false∨(kind≠6∧kind≠7∧kind≠8)∨¬ (0≤site∧site < 8) then (z0,1)
  else if 1023≤e.Number then (z0,3)
  else if kind=6 then
    if sta e site.toNat≠0 then (z0,171)
    else if ¬ (0≤sponsor∧sponsor < 8) then (z0,1)
    else if sta e sponsor.toNat≠1 then (z0,171)
    else (⟨e.Number+1,vset e.States site.toNat 1,e.Seals,vset e.Sponsor site.toNat sponsor⟩,0)
  else if kind=7 then
    if sta e site.toNat≠1 then (z0,171)
    else if lone e site.toNat=true then (z0,170)
    else (⟨e.Number+1,vset e.States site.toNat 2,e.Seals,e.Sponsor⟩,0)
  else if sta e site.toNat≠2 then (z0,171)
  else if length < 0∨1099511627776 < length then (z0,1)
  else (⟨e.Number+1,vset e.States site.toNat 3,vset e.Seals site.toNat length,e.Sponsor⟩,0)
def app (e:za) (x:z9):za×Int:=app' e x.Kind x.Site x.Sponsor x.Length
def eqE (a b:za):Bool:=(a.Number==b.Number)&&((vbeq beq3 a.States b.States)&&((vbeq beq2 a.Seals b.Seals)&&(vbeq beq3 a.Sponsor b.Sponsor)))
def spon3 (b:za) (i k:Nat):Int:=if k=0 then spo b i else 0
def leng3 (b:za) (i k:Nat):Int:=if k=2 then sea b i else 0
def ent3 (b:za) (i k:Nat):z9 :=
  ⟨(k:Int)+6,0,0,(⟨(⟨0,0⟩:z1a),0,0,0,[],[],[]⟩:GOp),0,0,[],z0,0,Vector.replicate 8 (default:Int),0,(⟨0,0,0,[]⟩:GPart),i,spon3 b i k,leng3 b i k⟩
def hit (a b:za) (i k:Nat):Bool:=((app a (ent3 b i k)).2==0)&&eqE (app a (ent3 b i k)).1 b
def hits (a b:za) (i:Nat):Bool:=(List.range 3).any (hit a b i)
def rd1 (s:Int×List Int):Int×(Int×List Int):=if s.1=0 then ((rI s.2).1,((rI s.2).2.1,(rI s.2).2.2)) else (0,s)
def rdv (g:Int→Int) (v0:Vector Int 8) (s:Int×List Int):Nat→(Int×List Int)×Vector Int 8
  | 0=>(s,v0)
  | k+1=>((rd1 (rdv g v0 s k).1).2,vset (rdv g v0 s k).2 k (g (rd1 (rdv g v0 s k).1).1))
def okR (B:List Int) (s:Int×List Int):Prop:=s.2 <:+ B
def z8:Vector Int 8:=Vector.replicate 8 (default:Int)
def rdE (g:Int→Int) (s:Int×List Int):za×(Int×List Int) :=
  (⟨(rd1 s).1, (rdv g z8 (rd1 s).2 8).2, (rdv id z8 (rdv g z8 (rd1 s).2 8).1 8).2, (rdv g z8 (rdv id z8 (rdv g z8 (rd1 s).2 8).1 8).1 8).2⟩,
    (rdv g z8 (rdv id z8 (rdv g z8 (rd1 s).2 8).1 8).1 8).1)
def sm (n:Int):Int:=if n=IntKind.i64.wrap (IntKind.i32.wrap n) then n else -2
theorem z17 {B:List Int} {s:Int×List Int} (h:okR B s):okR B (rd1 s).2:=by
  unfold rd1
  split
  · exact (rI_suffix s.2).trans h
  · exact h
theorem zh0 {B:List Int} {s:Int×List Int} (h:okR B s) (g:Int→Int) (v0:Vector Int 8):∀ k,okR B (rdv g v0 s k).1
  | 0=>h
  | k+1=>z17 (zh0 h g v0 k)
theorem rdv_st (g g':Int→Int) (v v':Vector Int 8) (s:Int×List Int):∀ k,(rdv g v s k).1=(rdv g' v' s k).1
  | 0=>rfl
  | k+1=>by simp only [rdv,rdv_st g g' v v' s k]
theorem zon (g:Int→Int) (v:Vector Int 8) (s:Int×List Int):∀ k,k≤8→∀ j,j < 8→vget (rdv g v s k).2 j default=if j < k then g (rd1 (rdv id z8 s j).1).1 else vget v j default
  | 0,_,j,_=>by simp [rdv]
  | k + 1, hk, j, hj => by
    simp only [rdv]
    rw [vget_set _ _ _ hj,zon g v s k (by omega) j hj]
    by_cases h:k=j
    · subst h; rw [if_pos rfl,if_pos (by omega),rdv_st g id v z8 s k]
    · rw [if_neg h]
      by_cases h':j < k
      · rw [if_pos h',if_pos (by omega)]
      · rw [if_neg h',if_neg (by omega)]
section
variable {N:Nat} {B:List Int} {s:Int×List Int}
def okB (B:List Int):Prop:=B.length≤70368744177664∧∀ x∈B,byteR x
theorem zr6 (hB:okB B) (h:okR B s):s.2.length≤70368744177664∧∀ x∈s.2,byteR x:=suffix_ok h hB.1 hB.2
theorem z7g (hN:11≤N) (hB:okB B) (h:okR B s):zd N s.1 ⟨true,s.2⟩=some ((rd1 s).1,(rd1 s).2.1,⟨true,(rd1 s).2.2⟩):=by
  unfold zd rd1
  by_cases he:s.1=0
  · have:(s.1==0)=true:=by simpa using he
    rw [this,if_pos he,F22_eq hN (zr6 hB h).1 (zr6 hB h).2]
    simp only [Bool.not_true,cond_false,Option.bind_some]
    unfold z1h
    rw [this]; rfl
  · have:(s.1==0)=false:=by simpa using he
    rw [this,if_neg he]; rfl
theorem z3g (hN:11≤N) (hB:okB B) (h:okR B s):ze N s.1 ⟨true,s.2⟩=some (sm (rd1 s).1,(rd1 s).2.1,⟨true,(rd1 s).2.2⟩):=by
  unfold ze sm
  rw [z7g hN hB h,Option.bind_some]
  by_cases hx:(rd1 s).1=IntKind.i64.wrap (IntKind.i32.wrap (rd1 s).1)
  · rw [if_pos hx,show ((rd1 s).1==IntKind.i64.wrap (IntKind.i32.wrap (rd1 s).1))=true by simpa using hx]; rfl
  · rw [if_neg hx,show ((rd1 s).1==IntKind.i64.wrap (IntKind.i32.wrap (rd1 s).1))=false by simpa using hx]; rfl
theorem vector_eq (hN:11≤N) (hB:okB B) (h:okR B s) (a:Int) (b v d:Vector Int 8):z4g N s.1 ⟨a,b,v,d⟩ ⟨true,s.2⟩ =
    some ((rdv id v s 8).1.1,⟨a,b,(rdv id v s 8).2,d⟩,⟨true,(rdv id v s 8).1.2⟩):=by
  unfold z4g
  rw [show (⟨0,s.1,⟨a,b,v,d⟩,⟨true,s.2⟩⟩:z1o)=(fun k:Nat=>(⟨(k:Int),(rdv id v s k).1.1,⟨a,b,(rdv id v s k).2,d⟩,⟨true,(rdv id v s k).1.2⟩⟩:z1o)) 0 from rfl]
  rw [zoj (fun k:Nat=>(⟨(k:Int),(rdv id v s k).1.1,⟨a,b,(rdv id v s k).2,d⟩,⟨true,(rdv id v s k).1.2⟩⟩:z1o)) 8 (fun _=>none) (some ((rdv id v s 8).1.1,⟨a,b,(rdv id v s 8).2,d⟩,⟨true,(rdv id v s 8).1.2⟩)) ?_ ?_ N (by omega)]
  · exact zom _
  · intro k next hk
    simp only [zgz hk,z3x (show (0:Int)≤k by omega) (show (k:Int) < 8 by omega),cond_true]
    rw [z7g hN hB (zh0 h id v k),Option.bind_some,z20 (by omega) (by omega),Int.toNat_natCast]
    rfl
  · intro next; rfl
theorem z144 (hN:11≤N) (hB:okB B) (h:okR B s):z23 N s.1 ⟨true,s.2⟩=some ((rdE sm s).1,(rdE sm s).2.1,⟨true,(rdE sm s).2.2⟩):=by
  unfold z23 z93
  rw [z7g hN hB h]
  simp only [Option.bind_some]
  have h1:=z17 h
  unfold rdE
  generalize (rd1 s).1=a at *
  generalize hs1:(rd1 s).2=s1 at *
  rw [show (⟨0,s1.1,⟨true,s1.2⟩,⟨a,Vector.replicate 8 default,Vector.replicate 8 default,Vector.replicate 8 default⟩⟩:z1s)=(fun k:Nat=>(⟨(k:Int),(rdv sm z8 s1 k).1.1,⟨true,(rdv sm z8 s1 k).1.2⟩,⟨a,(rdv sm z8 s1 k).2,z8,z8⟩⟩:z1s)) 0 from rfl]
  rw [zoj (fun k:Nat=>(⟨(k:Int),(rdv sm z8 s1 k).1.1,⟨true,(rdv sm z8 s1 k).1.2⟩,⟨a,(rdv sm z8 s1 k).2,z8,z8⟩⟩:z1s)) 8 (fun _=>none) _ ?_ ?_ N (by omega)]
  · exact zom _
  · intro k next hk
    simp only [zgz hk,z3x (show (0:Int)≤k by omega) (show (k:Int) < 8 by omega),cond_true]
    rw [z3g hN hB (zh0 h1 sm z8 k),Option.bind_some,z20 (by omega) (by omega),Int.toNat_natCast]
    rfl
  · intro next
    have h2:=zh0 h1 sm z8 8
    generalize rdv sm z8 s1 8=p at *
    obtain ⟨s2,v1⟩:=p
    simp only at h2 ⊢
    rw [show decide (((8:Nat):Int) < 8)=false from rfl,cond_false,vector_eq hN hB h2,Option.bind_some]
    have h3:=zh0 h2 id z8 8
    generalize rdv id z8 s2 8=p at *
    obtain ⟨s3,v2⟩:=p
    simp only at h3 ⊢
    rw [show (⟨0,s3.1,⟨true,s3.2⟩,⟨a,v1,v2,z8⟩⟩:z1p)=(fun k:Nat=>(⟨(k:Int),(rdv sm z8 s3 k).1.1,⟨true,(rdv sm z8 s3 k).1.2⟩,⟨a,v1,v2,(rdv sm z8 s3 k).2⟩⟩:z1p)) 0 from rfl]
    rw [zoj (fun k:Nat=>(⟨(k:Int),(rdv sm z8 s3 k).1.1,⟨true,(rdv sm z8 s3 k).1.2⟩,⟨a,v1,v2,(rdv sm z8 s3 k).2⟩⟩:z1p)) 8 (fun _=>none) (some ((⟨a,v1,v2,(rdv sm z8 s3 8).2⟩:za),(rdv sm z8 s3 8).1.1,⟨true,(rdv sm z8 s3 8).1.2⟩)) ?_ ?_ N (by omega)]
    · exact zom _
    · intro k next hk
      simp only [zgz hk,z3x (show (0:Int)≤k by omega) (show (k:Int) < 8 by omega),cond_true]
      rw [z3g hN hB (zh0 h3 sm z8 k),Option.bind_some,z20 (by omega) (by omega),Int.toNat_natCast]
      rfl
    · intro next; rfl
end
section
variable {N:Nat} {B:List Int} {s:Int×List Int}
end
section
variable {N:Nat} {B:List Int} {s:Int×List Int}
attribute [local irreducible] rdv
theorem z16 {n:Int} (hn:R64 n) (rest:List Int):rd1 (0,pI n++rest)=(n,(0,rest)):=by
  unfold rd1 pI
  rw [if_pos rfl,rI_back hn]
theorem z107 {l:List Int} (hl:∀ n∈l,R64 n) (rest:List Int):∀ k,k≤l.length→(rdv id z8 (0,(l.map pI).flatten++rest) k).1=(0,((l.drop k).map pI).flatten++rest)
  | 0,_=>by simp only [rdv,List.drop_zero]
  | k + 1, hk => by
    have hlt:k < l.length:=by omega
    simp only [rdv]
    rw [z107 hl rest k (by omega),List.drop_eq_getElem_cons hlt,List.map_cons,List.flatten_cons,List.append_assoc,z16 (hl _ (List.getElem_mem hlt))]
theorem zlk {v:Vector Int 8} (hv:∀ n∈v.toList,R64 n) (rest:List Int):rdv id z8 (0,(v.toList.map pI).flatten++rest) 8=((0,rest),v):=by
  have hlen:v.toList.length=8:=by simp
  refine Prod.ext ?_ (vext default fun j hj=>?_)
  · rw [z107 hv rest 8 (by omega),List.drop_eq_nil_of_le (by omega)]; simp
  · rw [zon id z8 _ 8 (Nat.le_refl _) j hj,if_pos hj,z107 hv rest j (by omega),List.drop_eq_getElem_cons (by omega),List.map_cons,List.flatten_cons,List.append_assoc,z16 (hv _ (List.getElem_mem (by omega)))]
    simp only [id,Vector.getElem_toList]
    exact (vgetE v _ hj).symm
theorem rdE_back {e:za} (h:MayEp e) (rest:List Int):rdE id (0,(epC e).flatten++rest)=(e,(0,rest)):=by
  obtain ⟨h1,h2,h3⟩:=zxc h
  obtain ⟨a,b,c,d⟩:=e
  unfold epC rdE
  simp only [List.flatten_append,List.map_cons,List.map_nil,List.flatten_cons,List.flatten_nil,List.append_nil,List.append_assoc]
  rw [z16 (cnt64 h.1)]
  simp only
  rw [zlk h1]
  simp only
  rw [zlk h3]
  simp only
  rw [zlk h2]
theorem end_eq (N:Nat) (c:List Int):z8f N ⟨true,c⟩=some (if 0 < (c.length:Int) then 13 else 0,⟨true,c⟩):=by
  unfold z8f z2z
  simp only [Option.bind_some,Bool.not_true,cond_false]
  by_cases h:0 < (c.length:Int)
  · rw [if_pos h,decide_eq_true h]; rfl
  · rw [if_neg h,decide_eq_false h]; rfl
end
section
variable {N:Nat} {w:List Int}
end
end Go.Proofs.YtddpmkmgbdedlaaGreat
