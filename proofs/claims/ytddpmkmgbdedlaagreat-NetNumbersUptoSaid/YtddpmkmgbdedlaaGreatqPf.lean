/-
What an operation does to what waits;numbers rise.
-/
import Derived.Test.YtddpmkmgbdedlaaGreatqPe
set_option linter.unusedVariables false
set_option linter.unusedSimpArgs false
set_option maxRecDepth 100000
namespace Go.Proofs.YtddpmkmgbdedlaaGreat
open Go Go.Ev
section
variable {N:Nat}
theorem W.left {ms:Oo}{l1 l2:List bJ}{L1 L2:List eW}(h:W ms (l1++l2) (L1++L2))(hl:l1.length=L1.length):W ms l1 L1:=by
 have h1:=h.sub (List.sublist_append_left l1 l2)
 have h2:=h.eq
 rw[List.map_append]at h2
 rwa [List.append_inj_left h2 (by simpa using hl)]at h1
theorem W.right {ms:Oo}{l1 l2:List bJ}{L1 L2:List eW}(h:W ms (l1++l2) (L1++L2))(hl:l1.length=L1.length):W ms l2 L2:=by
 have h1:=h.sub (List.sublist_append_right l1 l2)
 have h2:=h.eq
 rw[List.map_append]at h2
 rwa [List.append_inj_right h2 (by simpa using hl)]at h1
abbrev xh:=aQ
def spoilt (s:eW)(p w:Int):eW:={ s with Data:=s.Data.set p.toNat (bits .xor .u8 (s.Data.getD p.toNat default) w) }
def oa (op:xh)(L:List eW)(last:Int):List eW×Int :=
 if op.Kind=0 then ((Ep op.DN 0 last L).2.2,(Ep op.DN 0 last L).2.1) else
 if op.Kind=1∨op.Kind=3 then (match idx L op.Number with|some i=>(L.eraseIdx i,last) | none=>(L,last)) else
 if op.Kind=2 then (match idx L op.Number with|some i=>if 16384≤L.length then (L,last) else (L++[⟨last+1,(L.getD i default).aS,(L.getD i default).To,(L.getD i default).Data⟩],last+1) | none=>(L,last)) else
 if op.Kind=4 then (match idx L op.Number with|some i=>if op.Place < 0∨((L.getD i default).Data.length:Int)≤op.Place then (L,last) else (L.set i (spoilt (L.getD i default) op.Place op.u6),last) | none=>(L,last)) else
 if op.Kind=5 then (L.filter fun s=>!LU op.EN s,last) else (L,last)
structure aE1 (N:Nat) (op:xh):Prop where
 msgs:∀ m∈op.DN,Db N m
 ml:op.DN.length≤1048576
 al:op.EN.length≤1048576
structure er (L:List eW) (last:Int):Prop where
 pw:(L.map (·.Number)).Pairwise (· < ·)
 pos:∀ s∈L,0 < s.Number
 le:∀ s∈L,s.Number≤last
theorem er.sub {L L':List eW}{last:Int}(h:er L last)(hs:L'.Sublist L):er L' last :=
 ⟨h.pw.sublist (hs.map _),fun s UK=>h.pos s (hs.subset UK),fun s UK=>h.le s (hs.subset UK)⟩
theorem er.push {L:List eW}{last:Int}(h:er L last)(h0:0≤last)(f t:bV)(d:List Int):er (L++[⟨last+1,f,t,d⟩]) (last+1):=by
 refine⟨?_,fun s hs=>?_,fun s hs=>?_⟩
 ·rw[List.map_append]
  refine List.pairwise_append.2 ⟨h.pw,by simp,fun a ha b hb=>?_⟩
  obtain⟨s,hs,rfl⟩:=List.mem_map.1 ha
  have:=h.le s hs
  simp at hb;omega
 ·rcases List.mem_append.1 hs with hs|hs
  ·exact h.pos s hs
  ·simp at hs;subst hs;simp only;omega
 ·rcases List.mem_append.1 hs with hs|hs
  ·have:=h.le s hs;omega
  ·simp at hs;subst hs;exact Int.le_refl _
theorem er.set {L:List eW}{last:Int}(h:er L last){i:Nat}{s:eW}(hs:s.Number=(L.getD i default).Number)(hi:i < L.length):er (L.set i s) last:=by
 have e:(L.set i s).map (·.Number)=L.map (·.Number):=by
  rw[List.map_set,hs]
  apply List.ext_getElem
  ·simp
  ·intro k h1 h2
   rw[List.getElem_set]
   split
   ·rename_i hk;subst hk;rw[vE _ hi];simp
   ·rfl
 have rZ:∀ x∈L.set i s,∃ y∈L,x.Number=y.Number:=fun x hx=>by
  rcases List.mem_or_eq_of_mem_set hx with hx|rfl
  ·exact⟨x,hx,rfl⟩
  ·exact⟨L.getD i default,by rw[vE _ hi];exact List.getElem_mem _,hs⟩
 exact⟨by rw[e];exact h.pw,fun x hx=>by obtain⟨y,hy,e⟩:=rZ x hx;rw[e];exact h.pos y hy,fun x hx=>by obtain⟨y,hy,e⟩:=rZ x hx;rw[e];exact h.le y hy⟩
theorem m7:∀ (l:List aN) (k last:Int) (L:List eW),er L last→0≤last→er (Ep l k last L).2.2 (Ep l k last L).2.1∧last≤(Ep l k last L).2.1∧(Ep l k last L).2.1≤last+l.length
 |[],k,last,L,h,h0=>⟨h,Int.le_refl _,by simp[Ep]⟩
 |m :: r,k,last,L,h,h0=>by
  rw[Ep]
  cases ZG m&&decide (L.length < 16384) with
  |true =>
   obtain⟨a,b,c⟩:=m7 r (k+1) (last+1) _ (h.push h0 m.aS m.To (qN (Js m))) (by omega)
   simp only[cond_true,List.length_cons]
   exact⟨a,by omega,by omega⟩
  |false =>
   obtain⟨a,b,c⟩:=m7 r k last L h h0
   simp only[cond_false,List.length_cons]
   exact⟨a,by omega,by omega⟩
theorem aCs {op:xh}{L:List eW}{last:Int}(h:er L last)(h0:0≤last):er (oa op L last).1 (oa op L last).2∧last≤(oa op L last).2∧(oa op L last).2≤last+op.DN.length+1 ∧
  (op.Kind≠0→op.Kind≠2→∀ s∈(oa op L last).1,∃ y∈L,s.Number=y.Number):=by
 have same:er L last∧last≤last∧last≤last+op.DN.length+1∧(op.Kind≠0→op.Kind≠2→∀ s∈L,∃ y∈L,s.Number=y.Number):=⟨h,Int.le_refl _,by omega,fun _ _ s hs=>⟨s,hs,rfl⟩⟩
 unfold oa
 by_cases k0:op.Kind=0
 ·rw[if_pos k0]
  obtain⟨a,b,c⟩:=m7 op.DN 0 last L h h0
  exact⟨a,b,by simp only;omega,fun q=>absurd k0 q⟩
 rw[if_neg k0]
 by_cases k1:op.Kind=1∨op.Kind=3
 ·rw[if_pos k1]
  cases idx L op.Number with
  |none=>exact same
  |some i=>exact⟨h.sub (List.eraseIdx_sublist _ _),Int.le_refl _,by simp only;omega,fun _ _ s hs=>⟨s,(List.eraseIdx_sublist _ _).subset hs,rfl⟩⟩
 rw[if_neg k1]
 by_cases k2:op.Kind=2
 ·rw[if_pos k2]
  cases idx L op.Number with
  |none=>exact same
  |some i =>
   simp only
   split
   ·exact same
   ·exact⟨h.push h0 _ _ _,by simp only;omega,by simp only;omega,fun _ q=>absurd k2 q⟩
 rw[if_neg k2]
 by_cases k4:op.Kind=4
 ·rw[if_pos k4]
  cases hi:idx L op.Number with
  |none=>exact same
  |some i =>
   have hil:=(RP hi).1
   simp only
   split
   ·exact same
   ·refine⟨h.set rfl hil,Int.le_refl _,by simp only;omega,fun _ _ s hs=>?_⟩
    rcases List.mem_or_eq_of_mem_set hs with hs|rfl
    ·exact⟨s,hs,rfl⟩
    ·exact⟨L.getD i default,by rw[vE _ hil];exact List.getElem_mem _,rfl⟩
 rw[if_neg k4]
 by_cases k5:op.Kind=5
 ·rw[if_pos k5]
  exact⟨h.sub List.filter_sublist,Int.le_refl _,by simp only;omega,fun _ _ s hs=>⟨s,(List.mem_filter.1 hs).1,rfl⟩⟩
 rw[if_neg k5]
 exact same
theorem S7 (hN:1≤N)(k:Int):lU N k 0=some (0,false,0):=by
 obtain⟨n,rfl⟩:∃ n,N=n+1:=⟨N - 1,by omega⟩
 rfl
theorem aBq (hN:1≤N)(k:Int):vR N k 0=some (XA,4,0):=by
 unfold vR;rw[S7 hN];rfl
theorem k9 (hN:1≤N)(k:Int):sL N k 0=some (0,4,0):=by
 unfold sL;rw[S7 hN];rfl
theorem aBk (hN:1≤N)(k:Int):vQ N k 0=some (4,0,0,[]):=by
 unfold vQ;rw[S7 hN];rfl
theorem S8 (hN:1≤N)(k p w:Int)(ms:Oo):uJ N k p w 0 ms=some (4,0,ms):=by
 unfold uJ;rw[S7 hN];rfl
theorem aGB (hN:1≤N)(l:List bV):Dc N l 0=some (0,0):=by
 obtain⟨n,rfl⟩:∃ n,N=n+1:=⟨N - 1,by omega⟩
 rfl
theorem aGC (hN:1048700≤N){l:List aN}(hl:l.length≤1048576)(hr:∀ m∈l,Db N m):∃ r,pM N l 0=some r:=by
 suffices key:∃ r,pM N l 0=some r∧True by
  obtain⟨r,e,_⟩:=key
  exact⟨r,e⟩
 unfold pM
 refine rM (fun q=>0≤q.i∧q.i≤(l.length:Int)∧q.b0=q.g1.length) (fun q=>l.length - q.i.toNat) _ ?_ N _ ⟨Int.le_refl _,by simp,rfl⟩ (by simp;omega)
 rintro⟨many,i,b0,yJ,g1⟩ nx ⟨p1,p2,p3⟩ hn
 simp only at p1 p2 p3
 subst p3
 by_cases hi:i < (l.length:Int)
 ·rw[decide_eq_true hi,dT p1 hi]
  simp only[cond_true]
  change ∃ r,(Ax N (aE l i default)).bind _=some r∧True
  have hw:IntKind.i64.wrap (i+1)=i+1:=wrap64 (by omega) (by omega)
  rw[B8 hN (hr _ (jS default p1 hi)),Option.bind_some,hw]
  generalize (bif ZG (aE l i default) then (qN (Js (aE l i default)),(0:Int)) else bif FZ (aE l i default) then ([],3) else ([],40))=z
  by_cases hc:((z.2==0)&&decide (((g1.length:Nat):Int) < 16384))=true
  ·have nH:g1.length < 16384:=by simp only[Bool.and_eq_true,decide_eq_true_eq]at hc;omega
   rw[hc]
   simp only[cond_true,List.length_singleton,dI (show (g1.length+1) * 64≤70368744177664 by omega),Nat.ble_self_eq_true,Bool.and_self]
   exact hn _ ⟨by simp only;omega,by simp only;omega,by simp⟩ (by simp only;omega)
  ·have ew:((z.2==0)&&decide (((g1.length:Nat):Int) < 16384))=false:=by rw[Bool.eq_false_iff];exact hc
   rw[ew]
   simp only[cond_false]
   exact hn _ ⟨by simp only;omega,by simp only;omega,rfl⟩ (by simp only;omega)
 ·rw[decide_eq_false hi]
  exact⟨_,rfl,trivial⟩
theorem aDl (d:List Int):(umM d).2=0∨(umM d).1=XA:=by
 unfold umM
 split
 ·exact .inr rfl
 split
 ·exact .inr rfl
 simp only
 generalize (if (MV sm (0,(u0 d).1)).2.1=0 then (if 0 < ((MV sm (0,(u0 d).1)).2.2.length:Int) then (13:Int) else 0) else (MV sm (0,(u0 d).1)).2.1)=e
 by_cases he:e=0
 ·rw[if_pos he]
  cases FZ (MV sm (0,(u0 d).1)).1 with
  |true=>exact .inl rfl
  |false=>exact .inr rfl
 ·rw[if_neg he]
  exact .inr rfl
theorem K0 (hN:60≤N):rR N XA XA=some true:=vg hN
theorem aIC (hN:1048700≤N){op:xh}(ho:aE1 N op){ms:Oo}{g:List bJ}{b:Nat}{L:List eW}{last:Int}(h:Q ms g b L)(h0:0≤last)(h1:last < 4611686018427387904) :
  ∃ bl b' x y kS g' z,Es N op b last true 0 g ms=some (bl,b',(oa op L last).2,true,x,y,kS,g',z)∧Q kS g' b' (oa op L last).1:=by
 have hlen:=h.len
 have wm:=h.Yo
 unfold Es oa
 by_cases k0:op.Kind=0
 ·rw[show (op.Kind==0)=true by simpa using k0,if_pos k0]
  obtain⟨kS,g',b',e,hq⟩:=aC2 hN (l:=op.DN) (by have:=ho.ml;omega) (by have:=ho.ml;omega) ho.msgs h h0 (by have:=ho.ml;omega)
  obtain⟨r,e2⟩:=aGC hN ho.ml ho.msgs
  simp only[cond_true]
  rw[e,Option.bind_some,e2]
  exact⟨_,_,_,_,_,_,_,rfl,hq⟩
 rw[show (op.Kind==0)=false by simpa using k0,if_neg k0]
 simp only[cond_false]
 by_cases k1:op.Kind=1
 ·rw[show (op.Kind==1)=true by simpa using k1,if_pos (.inl k1)]
  simp only[cond_true]
  cases hi:idx L op.Number with
  |none =>
   rw[vt (by omega) h hi,Option.bind_some,aBq (by omega),Option.bind_some]
   simp only[beq_self_eq_true,cond_true]
   rw[K0 (by omega)]
   exact⟨_,_,_,_,_,_,_,rfl,h⟩
  |some i =>
   obtain⟨e,hq⟩:=vu (last:=last) hN h hi
   rw[e,Option.bind_some,aBq (by omega),Option.bind_some]
   have hz:(umM (L.getD i default).Data).2=4→(umM (L.getD i default).Data).1=XA:=fun h4=>by
    rcases aDl (L.getD i default).Data with h|h
    ·rw[h]at h4;cases h4
    ·exact h
   by_cases h4:(umM (L.getD i default).Data).2=4
   ·rw[hz h4,h4]
    simp only[beq_self_eq_true,cond_true]
    rw[K0 (by omega)]
    exact⟨_,_,_,_,_,_,_,rfl,hq⟩
   ·rw[show ((umM (L.getD i default).Data).2==4)=false by simpa using h4]
    exact⟨_,_,_,_,_,_,_,rfl,hq⟩
 rw[show (op.Kind==1)=false by simpa using k1]
 simp only[cond_false]
 by_cases k2:op.Kind=2
 ·rw[show (op.Kind==2)=true by simpa using k2,if_neg (by omega),if_pos k2]
  simp only[cond_true]
  cases hi:idx L op.Number with
  |none =>
   rw[Y3 (by omega) h hi,Option.bind_some,k9 (by omega)]
   exact⟨_,_,_,_,_,_,_,rfl,h⟩
  |some i =>
   simp only
   by_cases hf:16384≤b
   ·rw[Y2 (by omega) h hi hf,Option.bind_some,k9 (by omega),if_pos (show 16384≤L.length by omega)]
    exact⟨_,_,_,_,_,_,_,rfl,h⟩
   ·obtain⟨kS,g',e,hq⟩:=Y4 (N:=N) (by omega) h hi (by omega) h0 (by omega)
    rw[e,Option.bind_some,k9 (by omega),if_neg (show ¬ 16384≤L.length by omega)]
    exact⟨_,_,_,_,_,_,_,rfl,hq⟩
 rw[show (op.Kind==2)=false by simpa using k2]
 simp only[cond_false]
 by_cases k3:op.Kind=3
 ·rw[show (op.Kind==3)=true by simpa using k3,if_pos (.inr k3)]
  simp only[cond_true]
  cases hi:idx L op.Number with
  |none =>
   rw[su (by omega) h hi,Option.bind_some,aBk (by omega)]
   exact⟨_,_,_,_,_,_,_,rfl,h⟩
  |some i =>
   obtain⟨e,hq⟩:=sv (N:=N) (last:=last) (by omega) h hi
   rw[e,Option.bind_some,aBk (by omega)]
   exact⟨_,_,_,_,_,_,_,rfl,hq⟩
 rw[show (op.Kind==3)=false by simpa using k3,if_neg (by omega),if_neg k2]
 simp only[cond_false]
 by_cases k4:op.Kind=4
 ·rw[show (op.Kind==4)=true by simpa using k4,if_pos k4]
  simp only[cond_true]
  cases hi:idx L op.Number with
  |none =>
   rw[lq (by omega) h hi,Option.bind_some,S8 (by omega)]
   exact⟨_,_,_,_,_,_,_,rfl,h⟩
  |some i =>
   simp only
   by_cases ha:op.Place < 0∨((L.getD i default).Data.length:Int)≤op.Place
   ·rw[vo (by omega) h hi ha,Option.bind_some,S8 (by omega),if_pos ha]
    exact⟨_,_,_,_,_,_,_,rfl,h⟩
   ·obtain⟨kS,e,hq⟩:=lr (N:=N) (at_:=op.Place) (last:=last) (with_:=op.u6) (by omega) h hi (by omega) (by omega)
    rw[e,Option.bind_some,S8 (by omega),if_neg ha]
    exact⟨_,_,_,_,_,_,_,rfl,hq⟩
 rw[show (op.Kind==4)=false by simpa using k4,if_neg k4]
 simp only[cond_false]
 by_cases k5:op.Kind=5
 ·rw[show (op.Kind==5)=true by simpa using k5,if_pos k5]
  simp only[cond_true]
  obtain⟨g',b',e,hq⟩:=aCM (N:=N) (last:=last) (by omega) (by have:=ho.al;omega) ho.al h
  rw[e,Option.bind_some,aGB (by omega)]
  exact⟨_,_,_,_,_,_,_,rfl,hq⟩
 rw[show (op.Kind==5)=false by simpa using k5,if_neg k5]
 exact⟨_,_,_,_,_,_,_,rfl,h⟩
end
end Go.Proofs.YtddpmkmgbdedlaaGreat
