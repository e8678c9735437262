/-
Nets over the pool: finding,taking,dropping,doubling,spoiling,sending.
-/
import Derived.Test.YtddpmkmgbdedlaaGreatqPa
set_option linter.unusedVariables false
set_option linter.unusedSimpArgs false
set_option maxRecDepth 100000
namespace Go.Proofs.YtddpmkmgbdedlaaGreat
open Go Go.Ev
section
variable {N:Nat}
def aCI (d:List Int):Prop:=byt d∧0 < d.length∧d.length≤1048600
structure Q (ms:fV) (g:List bU) (b:Nat) (L:List cC):Prop where
 le:b≤g.length
 w:W ms (g.take b) L
 most:b≤16384
 data:∀ s∈L,aCI s.Data
def idx (L:List cC) (k:Int):Option Nat:=L.findIdx? (fun s=>s.Number==k)
theorem aVC {L:List cC} {k:Int} {i:Nat} (h:i < L.length) (h1:(L.getD i default).Number=k) (h2:∀ j,j < i→(L.getD j default).Number≠k):idx L k=some i:=by
 unfold idx
 rw [List.findIdx?_eq_some_iff_getElem]
 refine ⟨h,by rw [mP _ h] at h1; simpa using h1,fun j hj=>?_⟩
 have:=h2 j hj
 rw [mP _ (show j < L.length by omega)] at this
 simpa using this
theorem aVD {L:List cC} {k:Int} (h2:∀ j,j < L.length→(L.getD j default).Number≠k):idx L k=none:=by
 unfold idx
 rw [List.findIdx?_eq_none_iff]
 intro x hx
 obtain ⟨j,hj,rfl⟩:=List.getElem_of_mem hx
 have:=h2 j hj
 rw [mP _ hj] at this
 simpa using this
theorem aMR {L:List cC} {k:Int} {i:Nat} (h:idx L k=some i):i < L.length∧(L.getD i default).Number=k:=by
 unfold idx at h
 rw [List.findIdx?_eq_some_iff_getElem] at h
 obtain ⟨h1,h2,_⟩:=h
 exact ⟨h1,by rw [mP _ h1]; simpa using h2⟩
section
variable {ms:fV} {g:List bU} {b:Nat} {L:List cC} {last k:Int}
theorem Q.len (h:Q ms g b L):L.length=b:=by
 have:=h.w.len
 have:=h.le
 simp at *; omega
theorem Q.get (h:Q ms g b L) {i:Nat} (hi:i < b):L.getD i default=vs ms (g.getD i default)∧HOk ms (g.getD i default).Data∧i < g.length:=by
 have hl:=h.le
 have:=h.w.get (i:=i) (by simp; omega)
 have e:(g.take b).getD i default=g.getD i default:=by simp [List.getD,List.getElem?_take,hi]
 rw [e] at this
 exact ⟨this.1,this.2,by omega⟩
theorem Q.mem (h:Q ms g b L) {i:Nat} (hi:i < b):aCI (L.getD i default).Data:=by
 have:=h.len
 rw [mP _ (by omega)]
 exact h.data _ (List.getElem_mem _)
theorem aVE (hN:16400≤N) (h:Q ms g b L):aBZ N b g k ms=some ((match idx L k with | some i=>(i:Int) | none=>-1),g,k,ms):=by
 have hm:=h.most
 have hl:=h.len
 unfold aBZ aGI
 refine cH (fun q=>q.b1=k∧q.ms=ms∧0≤q.t8∧q.t8≤(b:Int)∧∀ j,j < q.t8.toNat→(L.getD j default).Number≠k) (fun q=>b - q.t8.toNat) ?_ N _ ⟨rfl,rfl,Int.le_refl _,by simp,fun j hj=>by simp at hj⟩ (by simp; omega)
 rintro ⟨t,b1,ms1⟩ next ⟨h1,h2,h3,h4,h5⟩ hn
 simp only at h1 h2 h3 h4 h5
 subst h1 h2
 by_cases ht:t < (b:Int)
 ·obtain ⟨e1,e2,e3⟩:=h.get (i:=t.toNat) (by omega)
  rw [decide_eq_true ht,bV h3 ht,decide_eq_true e3]
  simp only [cond_true,Option.bind_some]
  have en:(L.getD t.toNat default).Number=(g.getD t.toNat default).Number:=by rw [e1]; rfl
  by_cases hk:(g.getD t.toNat default).Number=b1
  ·have:((g.getD t.toNat default).Number==b1)=true:=by simpa using hk
   simp only [this,cond_true]
   rw [aVC (i:=t.toNat) (by omega) (by rw [en,hk]) h5]
   simp only
   rw [show ((t.toNat:Nat):Int)=t by omega]
  ·have:((g.getD t.toNat default).Number==b1)=false:=by simpa using hk
   simp only [this,cond_false]
   rw [bH (by omega) (by omega)]
   refine hn _ ⟨rfl,rfl,by simp only; omega,by simp only; omega,fun j hj=>?_⟩ (by simp only; omega)
   simp only at hj
   by_cases hjt:j=t.toNat
   ·subst hjt; rw [en]; exact hk
   ·exact h5 j (by omega)
 ·rw [decide_eq_false ht,aVD (fun j hj=>h5 j (by omega))]
  rfl
theorem aMS (hN:16400≤N) (h:Q ms g b L) {i:Nat} (hi:idx L k=some i):yX N k b last true g ms=some ((i:Int),0,b,last,true,g,ms):=by
 unfold yX rL aGN
 simp only [Option.bind_some,Bool.not_true,cond_false,aVE hN h,hi]
 have:decide ((0:Int)≤(i:Int))=true:=decide_eq_true (by omega)
 simp only [this,Bool.not_true,cond_false]
theorem aVF {α:Type} (l:List α) (n:Nat) (d:α):qB l (0+l.length) n d=l:=by
 unfold qB
 rw [Nat.zero_add,List.take_length,Nat.sub_self,Nat.min_zero,List.replicate_zero,List.drop_eq_nil_of_le (by omega)]
 simp
theorem aVG (h:Q ms g b L) {i:Nat} (hi:i < b) (ms2:fV):aB1 N b (i:Int) ((i:Int)+1) g ms2=some (b - 1,ms2,(g.take b).eraseIdx i):=by
 have hm:=h.most
 have hle:=h.le
 unfold aB1
 have t1:((i:Int)).toNat=i:=by omega
 have t2:((i:Int)+1).toNat=i+1:=by omega
 have hd:g.take i++(g.drop (0+(i+1))).take (b - (i+1))=(g.take b).eraseIdx i:=by
  rw [List.eraseIdx_eq_take_drop_succ,List.take_take,Nat.min_eq_left (by omega),Nat.zero_add,List.drop_take]
 have c1:gX (i:Int) ((i:Int)+1) ((b:Nat):Int) ((b:Nat):Int)=true:=by simp [gX]; omega
 have c2:((i:Int)==(i:Int)+1)=false:=by simp; omega
 have c3:gX 0 (i:Int) ((b:Nat):Int) ((b:Nat):Int)=true:=by simp [gX]; omega
 have c4:gX ((i:Int)+1) ((b:Nat):Int) ((b:Nat):Int) ((b:Nat):Int)=true:=by simp [gX]; omega
 have hlen:i+((g.drop (0+(i+1))).take (b - (i+1))).length=b - 1:=by simp; omega
 have c5:(aO (b - 1) 64&&Nat.ble i g.length&&Nat.ble (0+(i+1)+(b - (i+1))) g.length)=true:=by
  rw [bY (by omega),Nat.ble_eq_true_of_le (by omega),Nat.ble_eq_true_of_le (by omega)]; rfl
 have c6:gX ((b - 1:Nat):Int) ((b:Nat):Int) ((max b (b - 1):Nat):Int) ((max b (b - 1):Nat):Int)=true:=by simp [gX]
 simp only [t1,t2,c1,c2,c3,c4,hlen,hd,c5,c6,cond_true,cond_false]
 have:((b - 1:Nat):Int).toNat=((g.take b).eraseIdx i).length:=by
  rw [List.length_eraseIdx,if_pos (by simp; omega)]; simp; omega
 rw [this,aVF]
theorem Q.erase (h:Q ms g b L) {i:Nat} (hi:i < b):Q ms ((g.take b).eraseIdx i) (b - 1) (L.eraseIdx i):=by
 have hle:=h.le
 have hl:((g.take b).eraseIdx i).length=b - 1:=by rw [List.length_eraseIdx,if_pos (by simp; omega)]; simp; omega
 refine ⟨by omega,?_,by have:=h.most; omega,fun s hs=>h.data s ((List.eraseIdx_sublist _ _).subset hs)⟩
 rw [List.take_of_length_le (by omega)]
 exact h.w.erase i
theorem Q.gone (h:Q ms g b L) {i:Nat} (hi:i < b):Q (dC ms (g.getD i default).Data.j none) ((g.take b).eraseIdx i) (b - 1) (L.eraseIdx i):=by
 have hle:=h.le
 have hq:=h.erase hi
 have hl:((g.take b).eraseIdx i).length=b - 1:=by rw [List.length_eraseIdx,if_pos (by simp; omega)]; simp; omega
 have hw:=hq.w
 rw [List.take_of_length_le (by omega)] at hw
 refine ⟨by omega,?_,by have:=h.most; omega,hq.data⟩
 rw [List.take_of_length_le (by omega)]
 have e:(g.take b).getD i default=g.getD i default:=by simp [List.getD,List.getElem?_take,hi]
 have:=h.w.erase_ne (i:=i) (by simp; omega)
 rw [e] at this
 have:=hw.other (j:=(g.getD i default).Data.j) none [] this
 rwa [List.append_nil] at this
theorem aVH (hN:1048700≤N) (h:Q ms g b L) {i:Nat} (hi:idx L k=some i) :
  zJ N k b last true g ms=some ((umM (L.getD i default).Data).1,(umM (L.getD i default).Data).2,b - 1,last,true,dC ms (g.getD i default).Data.j none,(g.take b).eraseIdx i)∧Q (dC ms (g.getD i default).Data.j none) ((g.take b).eraseIdx i) (b - 1) (L.eraseIdx i):=by
 have hib:i < b:=by have:=(aMR hi).1; have:=h.len; omega
 have hm:=h.most
 obtain ⟨e1,e2,e3⟩:=h.get hib
 obtain ⟨d1,d2,d3⟩:=h.mem hib
 refine ⟨?_,h.gone hib⟩
 unfold zJ
 rw [aMS (by omega) h hi]
 have t1:((i:Int)).toNat=i:=by omega
 simp only [Option.bind_some,beq_self_eq_true,Bool.not_true,cond_false,t1,bV (show (0:Int)≤(i:Int) by omega) (show (i:Int) < ((b:Nat):Int) by omega),decide_eq_true e3,cond_true]
 rw [bH (by omega) (by omega),aVG h hib,Option.bind_some]
 simp only
 have hv:((fM ms (g.getD i default).Data.j).drop (g.getD i default).Data.o).take (g.getD i default).Data.n=(L.getD i default).Data:=by rw [e1]; rfl
 rw [hv,aYS (by omega) (by omega) ⟨by omega,d1⟩,Option.bind_some,e2.has,Nat.ble_eq_true_of_le e2.fit]
 rfl
theorem set_vs (h:W ms (g.take b) L) (hle:b≤g.length) {i:Nat} (hib:i < b) {c d:List Int} (hc:c.length=(fM ms (g.getD i default).Data.j).length) (hd:(c.drop (g.getD i default).Data.o).take (g.getD i default).Data.n=d) :
  W (dC ms (g.getD i default).Data.j (some c)) (g.take b) (L.set i { L.getD i default with Data:=d }):=by
 have e:(g.take b).getD i default=g.getD i default:=by simp [List.getD,List.getElem?_take,hib]
 have hil:i < (g.take b).length:=by simp; omega
 have aH:(g.take b)[i]=g.getD i default:=by rw [← e,mP _ hil]
 obtain ⟨q1,q2⟩:=h.get hil
 rw [e] at q1 q2
 have hs:=aVB (some c) q2.has
 have hpc:fM (dC ms (g.getD i default).Data.j (some c)) (g.getD i default).Data.j=c:=by unfold fM; rw [hs]; rfl
 have hne:∀ (k:Nat) (hk:k < (g.take b).length),k≠i→(g.take b)[k].Data.j≠(g.getD i default).Data.j:=fun k hk hki hj=>by
  have hq:=List.pairwise_iff_getElem.1 (List.nodup_iff_pairwise_ne.1 h.dis)
  rw [← aH] at hj
  rcases Nat.lt_or_gt_of_ne hki with hlt | hlt
  ·exact hq k i (by simpa using hk) (by simpa using hil) hlt (by simpa using hj)
  ·exact hq i k (by simpa using hil) (by simpa using hk) hlt (by simpa using hj.symm)
 have hold:∀ (k:Nat) (hk:k < (g.take b).length),k≠i→HOk (dC ms (g.getD i default).Data.j (some c)) (g.take b)[k].Data∧vb (dC ms (g.getD i default).Data.j (some c)) (g.take b)[k].Data=vb ms (g.take b)[k].Data:=fun k hk hki=>by
  have:=(h.ok _ (List.getElem_mem hk)).old (j:=(g.getD i default).Data.j) (some c) [] (hne k hk hki)
  rwa [List.append_nil] at this
 have hnew:HOk (dC ms (g.getD i default).Data.j (some c)) (g.getD i default).Data:=⟨by unfold jE; rw [hs]; rfl,by rw [hpc,hc]; exact q2.fit⟩
 refine ⟨fun x hx=>?_,h.dis,?_⟩
 ·obtain ⟨k,hk,rfl⟩:=List.getElem_of_mem hx
  by_cases hki:k=i
  ·subst hki; rw [aH]; exact hnew
  ·exact (hold k hk hki).1
 ·apply List.ext_getElem
  ·have:=h.len; simp at this ⊢; exact this
  ·intro k h1 h2
   simp only [List.length_map] at h1
   rw [List.getElem_map,List.getElem_set]
   by_cases hki:i=k
   ·subst hki
    rw [if_pos rfl,aH,q1]
    simp only [vs,vb,hpc,hd]
   ·rw [if_neg hki]
    have h3:=(hold k h1 (by omega)).2
    have:L[k]'(by simpa using h2)=vs ms (g.take b)[k]:=by
     have hL:=h.eq
     subst hL
     simp
    rw [this]
    unfold vs
    rw [h3]
end
end
end Go.Proofs.YtddpmkmgbdedlaaGreat
