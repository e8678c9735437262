/-
Plain laws for the printed functions: loops by an invariant,wrap-around in range,lists and vectors by their places.
-/
import Derived.Test.YtddpmkmgbdedlaaGreatqTvR
set_option linter.unusedVariables false
set_option linter.unusedSimpArgs false
namespace Go.Ev
open Go
theorem cH {S R:Type} {body:S→(S→Option R)→Option R} {res:Option R} (P:S→Prop) (μ:S→Nat)
  (h:∀ s next,P s→(∀ s',P s'→μ s' < μ s→next s'=res)→body s next=res):∀ m s,P s→μ s < m→bE m body s=res
 | 0,_,_,hm=>by omega
 | m+1,s,hp,hm=>h s _ hp fun s' hp' hlt=>cH P μ h m s' hp' (by omega)
theorem wV {S R:Type} {body:S→(S→Option R)→Option R} (P:S→Prop) (μ:S→Nat) (Q:R→Prop)
  (h:∀ s next,P s→(∀ s',P s'→μ s' < μ s→∃ r,next s'=some r∧Q r)→∃ r,body s next=some r∧Q r):∀ m s,P s→μ s < m→∃ r,bE m body s=some r∧Q r
 | 0,_,_,hm=>by omega
 | m+1,s,hp,hm=>h s _ hp fun s' hp' hlt=>wV P μ Q h m s' hp' (by omega)
theorem qM {S R:Type} {body:S→(S→Option R)→Option R} (st:Nat→S) (n:Nat) (out:Nat→Option (Option R)) (last:Option R)
  (hs:∀ k next,k < n→body (st k) next=(match out k with | some r=>r | none=>next (st (k+1)))) (he:∀ next,body (st n) next=last) :
  ∀ m,n < m→bE m body (st 0)=((List.range n).findSome? out).getD last:=by
 have key:∀ d k m,k+d=n→d < m→bE m body (st k)=((List.range' k d).findSome? out).getD last:=by
  intro d
  induction d with
  | zero =>
   intro k m hk hm
   obtain ⟨m,rfl⟩:∃ q,m=q+1:=⟨m - 1,by omega⟩
   obtain rfl:k=n:=by omega
   exact he _
  | succ d ih =>
   intro k m hk hm
   obtain ⟨m,rfl⟩:∃ q,m=q+1:=⟨m - 1,by omega⟩
   rw [bE,hs k _ (by omega),List.range'_succ,List.findSome?_cons]
   cases out k with
   | some r=>rfl
   | none=>exact ih (k+1) m (by omega) (by omega)
 intro m hm
 rw [key n 0 m (by omega) hm,List.range_eq_range']
theorem bH {n:Int} (h1:-9223372036854775808≤n) (h2:n≤9223372036854775807):IntKind.i64.wrap n=n:=by
 have:IntKind.i64.wrap n=if n % 18446744073709551616 ≥ 9223372036854775808 then n % 18446744073709551616 - 18446744073709551616 else n % 18446744073709551616:=by
  simp [IntKind.wrap,IntKind.bits,IntKind.signed]
 rw [this]; split<;>omega
theorem aKj {n:Int} (h1:0≤n) (h2:n≤4294967295):IntKind.u32.wrap n=n:=by
 simp [IntKind.wrap,IntKind.bits,IntKind.signed]; omega
theorem aOm (n:Int):0≤IntKind.u8.wrap n∧IntKind.u8.wrap n≤255:=by
 simp [IntKind.wrap,IntKind.bits,IntKind.signed]; omega
theorem bV {i n:Int} (h1:0≤i) (h2:i < n):ibB i n=true:=by simp [ibB,h1,h2]
theorem wW {l h n:Int} (h1:0≤l) (h2:l≤h) (h3:h≤n):gA l h n=true:=by simp [gA,h1,h2,h3]
theorem bY {n k:Nat} (h:n * k≤70368744177664):aO n k=true:=by simp [aO,h]
theorem aXA {α:Type} (d:α) {l:List α} {i:Nat} (h:i < l.length):l.drop i=l.getD i d :: l.drop (i+1):=by
 rw [List.drop_eq_getElem_cons h]; simp [List.getD,List.getElem?_eq_getElem h]
theorem cK {α:Type} (d:α) {l:List α} {i:Int} (h0:0≤i) (h:i < l.length):l.drop i.toNat=aA l i d :: l.drop (i+1).toNat:=by
 have e:(i+1).toNat=i.toNat+1:=by omega
 rw [e]; exact aXA d (by omega)
theorem fJ {α:Type} (d:α) {l:List α} {i:Int} (h0:0≤i) (h:i < l.length):aA l i d∈l:=by
 have hi:i.toNat < l.length:=by omega
 have:aA l i d=l[i.toNat]:=by simp [aA,List.getD,List.getElem?_eq_getElem hi]
 rw [this]; exact List.getElem_mem hi
section
variable {α:Type} {n:Nat}
theorem aAD (v:Vector α n) (d:α) {i:Nat} (h:i < n):bC v i d=v[i]:=by
 simp [bC,List.getD,h]
theorem aOn (v:Vector α n) (d:α) {i:Nat} (h:i < n):bC v i d∈v.toList:=by
 rw [aAD _ _ h]; simp
theorem aKk {b:α→α→Bool} (hb:∀ x y,b x y=true↔x=y):∀ l m:List α,l.length=m.length→(((l.zip m).all fun p=>b p.1 p.2)=true↔l=m)
 | [],[],_=>by simp
 | [],_ :: _,h=>by simp at h
 | _ :: _,[],h=>by simp at h
 | x :: l, y :: m, h => by
  have ih:=aKk hb l m (by simpa using h)
  simp only [List.zip_cons_cons,List.all_cons,Bool.and_eq_true,hb,ih,List.cons.injEq]
theorem aDD {b:α→α→Bool} (hb:∀ x y,b x y=true↔x=y) (v w:Vector α n):bR b v w=true↔v=w:=by
 unfold bR
 rw [aKk hb _ _ (by simp)]
 constructor
 ·intro h
  apply Vector.ext
  intro i hi
  have:v.toList[i]?=w.toList[i]?:=by rw [h]
  simpa [hi] using this
 ·rintro rfl; rfl
end
end Go.Ev
