/-
Plain laws for the printed functions: loops by an invariant,wrap-around in range,lists and vectors by their places.
-/
import Derived.Test.YtddpmkmgbdedlaaGreatqTvR
set_option linter.unusedVariables false
set_option linter.unusedSimpArgs false
namespace Go.Ev
open Go
theorem dU {S R:Type}{body:S→(S→Option R)→Option R}{res:Option R}(P:S→Prop)(μ:S→Nat)
  (h:∀ s next,P s→(∀ s',P s'→μ s' < μ s→next s'=res)→body s next=res):∀ m s,P s→μ s < m→iter m body s=res
 |0,_,_,hm=>by omega
 |m+1,s,hp,hm=>h s _ hp fun s' hp' nH=>dU P μ h m s' hp' (by omega)
theorem rM {S R:Type}{body:S→(S→Option R)→Option R}(P:S→Prop)(μ:S→Nat)(Q:R→Prop)
  (h:∀ s next,P s→(∀ s',P s'→μ s' < μ s→∃ r,next s'=some r∧Q r)→∃ r,body s next=some r∧Q r):∀ m s,P s→μ s < m→∃ r,iter m body s=some r∧Q r
 |0,_,_,hm=>by omega
 |m+1,s,hp,hm=>h s _ hp fun s' hp' nH=>rM P μ Q h m s' hp' (by omega)
theorem Gx {S R:Type}{body:S→(S→Option R)→Option R}(st:Nat→S)(n:Nat)(out:Nat→Option (Option R))(last:Option R)
  (hs:∀ k next,k < n→body (st k) next=(match out k with|some r=>r|none=>next (st (k+1)))) (he:∀ next,body (st n) next=last) :
  ∀ m,n < m→iter m body (st 0)=((List.range n).findSome? out).getD last:=by
 have key:∀ d k m,k+d=n→d < m→iter m body (st k)=((List.range' k d).findSome? out).getD last:=by
  intro d
  induction d with
  |zero =>
   intro k m hk hm
   obtain⟨m,rfl⟩:∃ q,m=q+1:=⟨m - 1,by omega⟩
   obtain rfl:k=n:=by omega
   exact he _
  |succ d ih =>
   intro k m hk hm
   obtain⟨m,rfl⟩:∃ q,m=q+1:=⟨m - 1,by omega⟩
   rw[iter,hs k _ (by omega),List.range'_succ,List.findSome?_cons]
   cases out k with
   |some r=>rfl
   |none=>exact ih (k+1) m (by omega) (by omega)
 intro m hm
 rw[key n 0 m (by omega) hm,List.range_eq_range']
theorem wrap64 {n:Int}(h1:-9223372036854775808≤n)(h2:n≤9223372036854775807):IntKind.i64.wrap n=n:=by
 have:IntKind.i64.wrap n=if n % 18446744073709551616 ≥ 9223372036854775808 then n % 18446744073709551616 - 18446744073709551616 else n % 18446744073709551616:=by
  simp[IntKind.wrap,IntKind.bits,IntKind.signed]
 rw[this];split<;>omega
theorem U8 {n:Int}(h1:0≤n)(h2:n≤4294967295):IntKind.u32.wrap n=n:=by
 simp[IntKind.wrap,IntKind.bits,IntKind.signed];omega
theorem KY (n:Int):0≤IntKind.u8.wrap n∧IntKind.u8.wrap n≤255:=by
 simp[IntKind.wrap,IntKind.bits,IntKind.signed];omega
theorem Vd {α:Type}{f:α→Nat}(h:∀ x,1≤f x):∀ l:List α,l.length≤(l.map f).sum
 |[]=>by simp
 |x :: l=>by have:=Vd h l;have:=h x;simp only[List.length_cons,List.map_cons,List.sum_cons];omega
theorem dT {i n:Int}(h1:0≤i)(h2:i < n):nI i n=true:=by simp[nI,h1,h2]
theorem AF {l h n:Int}(h1:0≤l)(h2:l≤h)(h3:h≤n):DP l h n=true:=by simp[DP,h1,h2,h3]
theorem dI {n k:Nat}(h:n * k≤70368744177664):dG n k=true:=by simp[dG,h]
theorem drop_cons {α:Type}(d:α){l:List α}{i:Nat}(h:i < l.length):l.drop i=l.getD i d :: l.drop (i+1):=by
 rw[List.drop_eq_getElem_cons h];simp[List.getD,List.getElem?_eq_getElem h]
theorem dC {α:Type}(d:α){l:List α}{i:Int}(h0:0≤i)(h:i < l.length):l.drop i.toNat=aE l i d :: l.drop (i+1).toNat:=by
 have e:(i+1).toNat=i.toNat+1:=by omega
 rw[e];exact drop_cons d (by omega)
theorem jS {α:Type}(d:α){l:List α}{i:Int}(h0:0≤i)(h:i < l.length):aE l i d∈l:=by
 have hi:i.toNat < l.length:=by omega
 have:aE l i d=l[i.toNat]:=by simp[aE,List.getD,List.getElem?_eq_getElem hi]
 rw[this];exact List.getElem_mem hi
section
variable {α:Type} {n:Nat}
theorem dv (v:Vector α n)(d:α){i:Nat}(h:i < n):iK v i d=v[i]:=by
 simp[iK,List.getD,h]
theorem dw (v:Vector α n)(d:α){i:Nat}(h:i < n):iK v i d∈v.toList:=by
 rw[dv _ _ h];simp
theorem HU {b:α→α→Bool}(hb:∀ x y,b x y=true↔x=y):∀ l m:List α,l.length=m.length→(((l.zip m).all fun p=>b p.1 p.2)=true↔l=m)
 |[],[],_=>by simp
 |[],_ :: _,h=>by simp at h
 |_ :: _,[],h=>by simp at h
 |x :: l,y :: m,h=>by
  have ih:=HU hb l m (by simpa using h)
  simp only[List.zip_cons_cons,List.all_cons,Bool.and_eq_true,hb,ih,List.cons.injEq]
theorem QO {b:α→α→Bool}(hb:∀ x y,b x y=true↔x=y)(v w:Vector α n):rN b v w=true↔v=w:=by
 unfold rN
 rw[HU hb _ _ (by simp)]
 constructor
 ·intro h
  apply Vector.ext
  intro i hi
  have:v.toList[i]?=w.toList[i]?:=by rw[h]
  simpa[hi] using this
 ·rintro rfl;rfl
end
end Go.Ev
