/-
Nets over the aX: finding,taking,dropping,doubling,spoiling,sending.
-/
import Derived.Test.YtddpmkmgbdedlaaGreatqPa
set_option linter.unusedVariables false
set_option linter.unusedSimpArgs false
set_option maxRecDepth 100000
namespace Go.Proofs.YtddpmkmgbdedlaaGreat
open Go Go.Ev
section
variable {N:Nat}
def TR (d:List Int):Prop:=Bg d∧0 < d.length∧d.length≤1048600
structure Q (ms:Oo) (g:List bJ) (b:Nat) (L:List eW):Prop where
 le:b≤g.length
 w:W ms (g.take b) L
 Yo:b≤16384
 data:∀ s∈L,TR s.Data
def idx (L:List eW)(k:Int):Option Nat:=L.findIdx? (fun s=>s.Number==k)
theorem aAz {L:List eW}{k:Int}{i:Nat}(h:i < L.length)(h1:(L.getD i default).Number=k)(h2:∀ j,j < i→(L.getD j default).Number≠k):idx L k=some i:=by
 unfold idx
 rw[List.findIdx?_eq_some_iff_getElem]
 refine⟨h,by rw[vE _ h]at h1;simpa using h1,fun j hj=>?_⟩
 have:=h2 j hj
 rw[vE _ (show j < L.length by omega)]at this
 simpa using this
theorem aAy {L:List eW}{k:Int}(h2:∀ j,j < L.length→(L.getD j default).Number≠k):idx L k=none:=by
 unfold idx
 rw[List.findIdx?_eq_none_iff]
 intro x hx
 obtain⟨j,hj,rfl⟩:=List.getElem_of_mem hx
 have:=h2 j hj
 rw[vE _ hj]at this
 simpa using this
theorem RP {L:List eW}{k:Int}{i:Nat}(h:idx L k=some i):i < L.length∧(L.getD i default).Number=k:=by
 unfold idx at h
 rw[List.findIdx?_eq_some_iff_getElem]at h
 obtain⟨h1,h2,_⟩:=h
 exact⟨h1,by rw[vE _ h1];simpa using h2⟩
section
variable {ms:Oo} {g:List bJ} {b:Nat} {L:List eW} {last k:Int}
theorem Q.len (h:Q ms g b L):L.length=b:=by
 have:=h.w.len
 have:=h.le
 simp at *;omega
theorem Q.get (h:Q ms g b L){i:Nat}(hi:i < b):L.getD i default=vs ms (g.getD i default)∧fu ms (g.getD i default).Data∧i < g.length:=by
 have hl:=h.le
 have:=h.w.get (i:=i) (by simp;omega)
 have e:(g.take b).getD i default=g.getD i default:=by simp[List.getD,List.getElem?_take,hi]
 rw[e]at this
 exact⟨this.1,this.2,by omega⟩
theorem Q.mem (h:Q ms g b L){i:Nat}(hi:i < b):TR (L.getD i default).Data:=by
 have:=h.len
 rw[vE _ (by omega)]
 exact h.data _ (List.getElem_mem _)
theorem H6 (hN:16400≤N)(h:Q ms g b L):kZ N b g k ms=some ((match idx L k with|some i=>(i:Int) | none=>-1),g,k,ms):=by
 have hm:=h.Yo
 have hl:=h.len
 unfold kZ zK
 refine dU (fun q=>q.b1=k∧q.ms=ms∧0≤q.t8∧q.t8≤(b:Int)∧∀ j,j < q.t8.toNat→(L.getD j default).Number≠k) (fun q=>b - q.t8.toNat) ?_ N _ ⟨rfl,rfl,Int.le_refl _,by simp,fun j hj=>by simp at hj⟩ (by simp;omega)
 rintro⟨t,b1,Ub⟩ next ⟨h1,h2,h3,h4,h5⟩ hn
 simp only at h1 h2 h3 h4 h5
 subst h1 h2
 by_cases ht:t < (b:Int)
 ·obtain⟨e1,e2,e3⟩:=h.get (i:=t.toNat) (by omega)
  rw[decide_eq_true ht,dT h3 ht,decide_eq_true e3]
  simp only[cond_true,Option.bind_some]
  have en:(L.getD t.toNat default).Number=(g.getD t.toNat default).Number:=by rw[e1];rfl
  by_cases hk:(g.getD t.toNat default).Number=b1
  ·have:((g.getD t.toNat default).Number==b1)=true:=by simpa using hk
   simp only[this,cond_true]
   rw[aAz (i:=t.toNat) (by omega) (by rw[en,hk]) h5]
   simp only
   rw[show ((t.toNat:Nat):Int)=t by omega]
  ·have:((g.getD t.toNat default).Number==b1)=false:=by simpa using hk
   simp only[this,cond_false]
   rw[wrap64 (by omega) (by omega)]
   refine hn _ ⟨rfl,rfl,by simp only;omega,by simp only;omega,fun j hj=>?_⟩ (by simp only;omega)
   simp only at hj
   by_cases hjt:j=t.toNat
   ·subst hjt;rw[en];exact hk
   ·exact h5 j (by omega)
 ·rw[decide_eq_false ht,aAy (fun j hj=>h5 j (by omega))]
  rfl
theorem HX (hN:16400≤N)(h:Q ms g b L){i:Nat}(hi:idx L k=some i):jU N k b last true g ms=some ((i:Int),0,b,last,true,g,ms):=by
 unfold jU eU vP
 simp only[Option.bind_some,Bool.not_true,cond_false,H6 hN h,hi]
 have:decide ((0:Int)≤(i:Int))=true:=decide_eq_true (by omega)
 simp only[this,Bool.not_true,cond_false]
theorem XD (hN:16400≤N)(h:Q ms g b L)(hi:idx L k=none):jU N k b last true g ms=some (0,4,b,last,true,g,ms):=by
 unfold jU eU vP
 simp only[Option.bind_some,Bool.not_true,cond_false,H6 hN h,hi]
 rfl
theorem se {α:Type}(l:List α)(n:Nat)(d:α):Kh l (0+l.length) n d=l:=by
 unfold Kh
 rw[Nat.zero_add,List.take_length,Nat.sub_self,Nat.min_zero,List.replicate_zero,List.drop_eq_nil_of_le (by omega)]
 simp
theorem E4 (h:Q ms g b L){i:Nat}(hi:i < b)(ms2:Oo):kH N b (i:Int) ((i:Int)+1) g ms2=some (b - 1,ms2,(g.take b).eraseIdx i):=by
 have hm:=h.Yo
 have hle:=h.le
 unfold kH
 have t1:((i:Int)).toNat=i:=by omega
 have t2:((i:Int)+1).toNat=i+1:=by omega
 have hd:g.take i++(g.drop (0+(i+1))).take (b - (i+1))=(g.take b).eraseIdx i:=by
  rw[List.eraseIdx_eq_take_drop_succ,List.take_take,Nat.min_eq_left (by omega),Nat.zero_add,List.drop_take]
 have c1:AG (i:Int) ((i:Int)+1) ((b:Nat):Int) ((b:Nat):Int)=true:=by simp[AG];omega
 have c2:((i:Int)==(i:Int)+1)=false:=by simp;omega
 have c3:AG 0 (i:Int) ((b:Nat):Int) ((b:Nat):Int)=true:=by simp[AG];omega
 have c4:AG ((i:Int)+1) ((b:Nat):Int) ((b:Nat):Int) ((b:Nat):Int)=true:=by simp[AG];omega
 have hlen:i+((g.drop (0+(i+1))).take (b - (i+1))).length=b - 1:=by simp;omega
 have c5:(dG (b - 1) 64&&Nat.ble i g.length&&Nat.ble (0+(i+1)+(b - (i+1))) g.length)=true:=by
  rw[dI (by omega),Nat.ble_eq_true_of_le (by omega),Nat.ble_eq_true_of_le (by omega)];rfl
 have c6:AG ((b - 1:Nat):Int) ((b:Nat):Int) ((max b (b - 1):Nat):Int) ((max b (b - 1):Nat):Int)=true:=by simp[AG]
 simp only[t1,t2,c1,c2,c3,c4,hlen,hd,c5,c6,cond_true,cond_false]
 have:((b - 1:Nat):Int).toNat=((g.take b).eraseIdx i).length:=by
  rw[List.length_eraseIdx,if_pos (by simp;omega)];simp;omega
 rw[this,se]
theorem Q.erase (h:Q ms g b L){i:Nat}(hi:i < b):Q ms ((g.take b).eraseIdx i) (b - 1) (L.eraseIdx i):=by
 have hle:=h.le
 have hl:((g.take b).eraseIdx i).length=b - 1:=by rw[List.length_eraseIdx,if_pos (by simp;omega)];simp;omega
 refine⟨by omega,?_,by have:=h.Yo;omega,fun s hs=>h.data s ((List.eraseIdx_sublist _ _).subset hs)⟩
 rw[List.take_of_length_le (by omega)]
 exact h.w.erase i
theorem Q.gone (h:Q ms g b L){i:Nat}(hi:i < b):Q (As ms (g.getD i default).Data.j none) ((g.take b).eraseIdx i) (b - 1) (L.eraseIdx i):=by
 have hle:=h.le
 have hq:=h.erase hi
 have hl:((g.take b).eraseIdx i).length=b - 1:=by rw[List.length_eraseIdx,if_pos (by simp;omega)];simp;omega
 have hw:=hq.w
 rw[List.take_of_length_le (by omega)]at hw
 refine⟨by omega,?_,by have:=h.Yo;omega,hq.data⟩
 rw[List.take_of_length_le (by omega)]
 have e:(g.take b).getD i default=g.getD i default:=by simp[List.getD,List.getElem?_take,hi]
 have:=h.w.aAe (i:=i) (by simp;omega)
 rw[e]at this
 have:=hw.other (j:=(g.getD i default).Data.j) none [] this
 rwa [List.append_nil]at this
theorem su (hN:16400≤N)(h:Q ms g b L)(hi:idx L k=none):oJ N k b last true g ms=some (4,b,last,true,ms,g):=by
 unfold oJ
 rw[XD hN h hi]
 rfl
theorem sv (hN:16400≤N)(h:Q ms g b L){i:Nat}(hi:idx L k=some i):oJ N k b last true g ms=some (0,b - 1,last,true,ms,(g.take b).eraseIdx i)∧Q ms ((g.take b).eraseIdx i) (b - 1) (L.eraseIdx i):=by
 have Qn:i < b:=by have:=(RP hi).1;have:=h.len;omega
 have hm:=h.Yo
 refine⟨?_,h.erase Qn⟩
 unfold oJ
 rw[HX hN h hi]
 simp only[Option.bind_some,beq_self_eq_true,Bool.not_true,cond_false]
 rw[wrap64 (by omega) (by omega),E4 h Qn]
 rfl
theorem vt (hN:16400≤N)(h:Q ms g b L)(hi:idx L k=none):kV N k b last true g ms=some (XA,4,b,last,true,ms,g):=by
 unfold kV
 rw[XD hN h hi]
 rfl
theorem vu (hN:1048700≤N)(h:Q ms g b L){i:Nat}(hi:idx L k=some i) :
  kV N k b last true g ms=some ((umM (L.getD i default).Data).1,(umM (L.getD i default).Data).2,b - 1,last,true,As ms (g.getD i default).Data.j none,(g.take b).eraseIdx i)∧Q (As ms (g.getD i default).Data.j none) ((g.take b).eraseIdx i) (b - 1) (L.eraseIdx i):=by
 have Qn:i < b:=by have:=(RP hi).1;have:=h.len;omega
 have hm:=h.Yo
 obtain⟨e1,e2,e3⟩:=h.get Qn
 obtain⟨d1,d2,d3⟩:=h.mem Qn
 refine⟨?_,h.gone Qn⟩
 unfold kV
 rw[HX (by omega) h hi]
 have t1:((i:Int)).toNat=i:=by omega
 simp only[Option.bind_some,beq_self_eq_true,Bool.not_true,cond_false,t1,dT (show (0:Int)≤(i:Int) by omega) (show (i:Int) < ((b:Nat):Int) by omega),decide_eq_true e3,cond_true]
 rw[wrap64 (by omega) (by omega),E4 h Qn,Option.bind_some]
 simp only
 have hv:((Kx ms (g.getD i default).Data.j).drop (g.getD i default).Data.o).take (g.getD i default).Data.n=(L.getD i default).Data:=by rw[e1];rfl
 rw[hv,U3 (by omega) (by omega) ⟨by omega,d1⟩,Option.bind_some,e2.has,Nat.ble_eq_true_of_le e2.fit]
 rfl
theorem aGE (h:W ms (g.take b) L)(hle:b≤g.length){i:Nat}(Qn:i < b){c d:List Int}(hc:c.length=(Kx ms (g.getD i default).Data.j).length)(hd:(c.drop (g.getD i default).Data.o).take (g.getD i default).Data.n=d) :
  W (As ms (g.getD i default).Data.j (some c)) (g.take b) (L.set i { L.getD i default with Data:=d }):=by
 have e:(g.take b).getD i default=g.getD i default:=by simp[List.getD,List.getElem?_take,Qn]
 have hil:i < (g.take b).length:=by simp;omega
 have bU:(g.take b)[i]=g.getD i default:=by rw[← e,vE _ hil]
 obtain⟨q1,q2⟩:=h.get hil
 rw[e]at q1 q2
 have hs:=ur (some c) q2.has
 have hpc:Kx (As ms (g.getD i default).Data.j (some c)) (g.getD i default).Data.j=c:=by unfold Kx;rw[hs];rfl
 have dF:∀ (k:Nat) (hk:k < (g.take b).length),k≠i→(g.take b)[k].Data.j≠(g.getD i default).Data.j:=fun k hk DF hj=>by
  have hq:=List.pairwise_iff_getElem.1 (List.nodup_iff_pairwise_ne.1 h.ij)
  rw[← bU]at hj
  rcases Nat.lt_or_gt_of_ne DF with nH|nH
  ·exact hq k i (by simpa using hk) (by simpa using hil) nH (by simpa using hj)
  ·exact hq i k (by simpa using hil) (by simpa using hk) nH (by simpa using hj.symm)
 have hold:∀ (k:Nat) (hk:k < (g.take b).length),k≠i→fu (As ms (g.getD i default).Data.j (some c)) (g.take b)[k].Data∧vb (As ms (g.getD i default).Data.j (some c)) (g.take b)[k].Data=vb ms (g.take b)[k].Data:=fun k hk DF=>by
  have:=(h.ok _ (List.getElem_mem hk)).old (j:=(g.getD i default).Data.j) (some c) [] (dF k hk DF)
  rwa [List.append_nil]at this
 have jq:fu (As ms (g.getD i default).Data.j (some c)) (g.getD i default).Data:=⟨by unfold EI;rw[hs];rfl,by rw[hpc,hc];exact q2.fit⟩
 refine⟨fun x hx=>?_,h.ij,?_⟩
 ·obtain⟨k,hk,rfl⟩:=List.getElem_of_mem hx
  by_cases DF:k=i
  ·subst DF;rw[bU];exact jq
  ·exact (hold k hk DF).1
 ·apply List.ext_getElem
  ·have:=h.len;simp at this ⊢;exact this
  ·intro k h1 h2
   simp only[List.length_map]at h1
   rw[List.getElem_map,List.getElem_set]
   by_cases DF:i=k
   ·subst DF
    rw[if_pos rfl,bU,q1]
    simp only[vs,vb,hpc,hd]
   ·rw[if_neg DF]
    have h3:=(hold k h1 (by omega)).2
    have:L[k]'(by simpa using h2)=vs ms (g.take b)[k]:=by
     have hL:=h.eq
     subst hL
     simp
    rw[this]
    unfold vs
    rw[h3]
end
end
end Go.Proofs.YtddpmkmgbdedlaaGreat
