/-
The law NetBack: the net's functions as lists,and the law.
-/
import Derived.Test.YtddpmkmgbdedlaaGreatqWv
import Derived.KernelRfl
set_option linter.unusedVariables false
set_option maxRecDepth 100000
namespace Go.Proofs.YtddpmkmgbdedlaaGreat
open Go Go.Ev
variable {N:Nat}
theorem lett_eq (hN:200≤N):zq3 N=some true:=by
  obtain ⟨k,rfl⟩:∃ k,N=k+200:=⟨N - 200,by omega⟩
  kernel_rfl
def zgx (k:Int) (m:GMsg):GSent:=⟨k,m.From,m.To,zbm (msB m)⟩
def qz (ks:List Int) (ms:List GMsg):List GSent:=List.zipWith zgx ks ms
structure Gm (N:Nat) (m:GMsg):Prop where
  may:MayMs m
  len:(msB m).length≤1048576
  room:roomM N m
theorem zmu {α:Type} (d:α) {l:List α} {i:Nat} (h:i < l.length):l.getD i d=l[i]:=by simp [List.getD,List.getElem?_eq_getElem h]
theorem index_at {g:List GSent} {k:Int} {i:Nat} (hN:g.length < N) (hl:g.length≤100000) (hi:i < g.length) (hk:(g.getD i default).Number=k) (hb:∀ j,j < i→(g.getD j default).Number≠k) :
    z2f N g.length g k=some ((i:Int),g,k):=by
  unfold z2f z7f
  refine z2i (fun s=>s.b1=k∧0≤s.t8∧s.t8≤(i:Int)) (fun s=>g.length - s.t8.toNat) ?_ N _ ⟨rfl,Int.le_refl _,by simp⟩ (by simp; omega)
  rintro ⟨t,b⟩ next ⟨h1,h2,h3⟩ hn
  simp only at h1 h2 h3
  subst h1
  have e1:decide (t < ((g.length:Nat):Int))=true:=by simp; omega
  have e2:ibB t ((g.length:Nat):Int)=true:=z3x h2 (by omega)
  have e3:decide (t.toNat < g.length)=true:=by simp; omega
  simp only [e1,e2,e3,cond_true,Option.bind_some]
  by_cases ht:t=i
  · subst ht
    have:((g.getD (i:Int).toNat default).Number==b)=true:=by simpa using hk
    simp only [this,cond_true]
  · have:((g.getD t.toNat default).Number==b)=false:=by simpa using hb t.toNat (by omega)
    simp only [this,cond_false]
    rw [z20 (by omega) (by omega)]
    exact hn _ ⟨rfl,by simp only; omega,by simp only; omega⟩ (by simp only; omega)
theorem index_no {g:List GSent} {k:Int} (hN:g.length < N) (hl:g.length≤100000) (hb:∀ j,j < g.length→(g.getD j default).Number≠k) :
    z2f N g.length g k=some (-1,g,k):=by
  unfold z2f z7f
  refine z2i (fun s=>s.b1=k∧0≤s.t8∧s.t8≤(g.length:Int)) (fun s=>g.length - s.t8.toNat) ?_ N _ ⟨rfl,Int.le_refl _,by simp⟩ (by simp; omega)
  rintro ⟨t,b⟩ next ⟨h1,h2,h3⟩ hn
  simp only at h1 h2 h3
  subst h1
  by_cases ht:t < g.length
  · have e1:decide (t < ((g.length:Nat):Int))=true:=by simp; omega
    have e2:ibB t ((g.length:Nat):Int)=true:=z3x h2 (by omega)
    have e3:decide (t.toNat < g.length)=true:=by simp; omega
    simp only [e1,e2,e3,cond_true,Option.bind_some]
    have:((g.getD t.toNat default).Number==b)=false:=by simpa using hb t.toNat (by omega)
    simp only [this,cond_false]
    rw [z20 (by omega) (by omega)]
    exact hn _ ⟨rfl,by simp only; omega,by simp only; omega⟩ (by simp only; omega)
  · have e1:decide (t < ((g.length:Nat):Int))=false:=by simp; omega
    simp only [e1,cond_false]
section
variable {g:List GSent} {k last:Int} {i:Nat}
theorem z12p (hN:g.length < N) (hl:g.length≤100000) (hi:i < g.length) (hk:(g.getD i default).Number=k) (hb:∀ j,j < i→(g.getD j default).Number≠k) :
    z6q N k g.length last true g=some ((i:Int),0,g.length,last,true,g):=by
  unfold z6q z2m z9f
  simp only [Option.bind_some,Bool.not_true,cond_false,index_at hN hl hi hk hb]
  have:decide ((0:Int)≤(i:Int))=true:=by simp
  simp only [this,Bool.not_true,cond_false]
theorem at_none (hN:g.length < N) (hl:g.length≤100000) (hb:∀ j,j < g.length→(g.getD j default).Number≠k) :
    z6q N k g.length last true g=some (0,4,g.length,last,true,g):=by
  unfold z6q z2m z9f
  simp only [Option.bind_some,Bool.not_true,cond_false,index_no hN hl hb]
  rfl
theorem clear_end {α:Type} (l:List α) (n:Nat) (d:α):zu0 l (0+l.length) n d=l:=by
  unfold zu0
  rw [Nat.zero_add,List.take_length,Nat.sub_self,Nat.min_zero,List.replicate_zero,List.drop_eq_nil_of_le (by omega)]
  simp
theorem delete_eq (hl:g.length≤100000) (hi:i < g.length):z5p N g.length (i:Int) ((i:Int)+1) g=some (g.length - 1,g.take i++g.drop (i+1)):=by
  unfold z5p
  have t1:((i:Int)).toNat=i:=by omega
  have t2:((i:Int)+1).toNat=i+1:=by omega
  have hd:(g.drop (0+(i+1))).take (g.length - (i+1))=g.drop (i+1):=by rw [Nat.zero_add]; exact List.take_of_length_le (by simp)
  have c1:cutW (i:Int) ((i:Int)+1) ((g.length:Nat):Int) ((g.length:Nat):Int)=true:=by simp [cutW]; omega
  have c2:((i:Int)==(i:Int)+1)=false:=by simp; omega
  have c3:cutW 0 (i:Int) ((g.length:Nat):Int) ((g.length:Nat):Int)=true:=by simp [cutW]; omega
  have c4:cutW ((i:Int)+1) ((g.length:Nat):Int) ((g.length:Nat):Int) ((g.length:Nat):Int)=true:=by simp [cutW]; omega
  have hlen:i+(g.drop (i+1)).length=g.length - 1:=by simp; omega
  have c5:(lenB (i+(g.drop (i+1)).length) 64&&Nat.ble i g.length&&Nat.ble (0+(i+1)+(g.length - (i+1))) g.length)=true:=by
    rw [zd6 (by omega),Nat.ble_eq_true_of_le (by omega),Nat.ble_eq_true_of_le (by omega)]; rfl
  have c6:cutW ((g.length - 1:Nat):Int) ((g.length:Nat):Int) ((max g.length (g.length - 1):Nat):Int) ((max g.length (g.length - 1):Nat):Int)=true:=by simp [cutW]
  simp only [t1,t2,hd,c1,c2,c3,c4,c5,cond_true,cond_false]
  simp only [hlen,c6,cond_true]
  have:((g.length - 1:Nat):Int).toNat=(g.take i++g.drop (i+1)).length:=by simp; try omega
  rw [this,clear_end]
theorem z113 (hN:4300≤N) (hN2:1048700≤N) (hl:g.length≤100000) (hlN:g.length < N) (hi:i < g.length) (hk:(g.getD i default).Number=k) (hb:∀ j,j < i→(g.getD j default).Number≠k) {m:GMsg} (hm:Gm N m) (hd:(g.getD i default).Data=zbm (msB m)) :
    z3d N k g.length last true g=some (m,0,g.length - 1,last,true,g.take i++g.drop (i+1)):=by
  unfold z3d
  rw [z12p hlN hl hi hk hb]
  have t1:((i:Int)).toNat=i:=by omega
  have e1:ibB (i:Int) ((g.length:Nat):Int)=true:=z3x (by omega) (by omega)
  have e2:decide (i < g.length)=true:=by simpa using hi
  simp only [Option.bind_some,beq_self_eq_true,Bool.not_true,cond_false,t1,e1,e2,cond_true]
  have hf:=zxl hm.len
  rw [z20 (by omega) (by omega),delete_eq hl hi,Option.bind_some,hd,z12f (by omega) (by omega) ⟨by omega,frame_byt hm.len (msB_byt hm.room.byt hm.may)⟩,umM_back hm.may hm.room.byt hm.len]
  rfl
theorem z114 (hl:g.length≤100000) (hlN:g.length < N) (hb:∀ j,j < g.length→(g.getD j default).Number≠k) :
    ∃ z,z3d N k g.length last true g=some (z,4,g.length,last,true,g):=by
  unfold z3d
  rw [at_none hlN hl hb]
  exact ⟨_,rfl⟩
theorem push_eq {f t:GAddr} {d:List Int} (hl:g.length≤100000) (h0:0≤last) (h1:last≤100000):z6o N f t d g.length last true g=some (last+1,g.length+1,last+1,true,g++[⟨last+1,f,t,d⟩]):=by
  unfold z6o
  rw [z20 (by omega) (by omega),zd6 (by simp; omega),Nat.ble_self_eq_true]
  simp
theorem z12q (hl:g.length≤100000) (hlN:g.length < N) (hi:i < g.length) (hk:(g.getD i default).Number=k) (hb:∀ j,j < i→(g.getD j default).Number≠k) (hf:16384≤g.length) :
    z49 N k g.length last true g=some (0,6,g.length,last,true,g):=by
  unfold z49
  rw [z12p hlN hl hi hk hb]
  have:decide ((16384:Int)≤((g.length:Nat):Int))=true:=by simp; omega
  simp only [Option.bind_some,beq_self_eq_true,Bool.not_true,cond_false,this,cond_true]
theorem double_eq (hl:g.length≤100000) (hlN:g.length < N) (hi:i < g.length) (hk:(g.getD i default).Number=k) (hb:∀ j,j < i→(g.getD j default).Number≠k) (hf:¬ 16384≤g.length) (h0:0≤last) (h1:last≤100000)
    (hd:(g.getD i default).Data.length≤70368744177664) :
    z49 N k g.length last true g=some (last+1,0,g.length+1,last+1,true,g++[⟨last+1,(g.getD i default).From,(g.getD i default).To,(g.getD i default).Data⟩]):=by
  unfold z49
  rw [z12p hlN hl hi hk hb]
  have t1:((i:Int)).toNat=i:=by omega
  have e0:decide ((16384:Int)≤((g.length:Nat):Int))=false:=by simp; omega
  have e1:ibB (i:Int) ((g.length:Nat):Int)=true:=z3x (by omega) (by omega)
  have e2:decide (i < g.length)=true:=by simpa using hi
  simp only [Option.bind_some,beq_self_eq_true,Bool.not_true,cond_false,t1,e0,e1,e2,cond_true,zyv hd,push_eq hl h0 h1]
theorem send_eq {m:GMsg} (hN:1048700≤N) (hr:roomM N m) (hl:g.length≤16384) (h0:0≤last) (h1:last≤100000) :
    (g.length < 16384∧Gm N m∧z4e N [m] g.length last true g=some (1,0,g.length+1,last+1,true,g++[zgx (last+1) m])) ∨
    (z4e N [m] g.length last true g=some (0,0,g.length,last,true,g)):=by
  obtain ⟨n,rfl⟩:∃ n,N=n+2:=⟨N - 2,by omega⟩
  unfold z4e z2m
  simp only [Option.bind_some,Bool.not_true,cond_false,iter]
  have a1:decide ((0:Int) < (([m]:List GMsg).length:Int))=true:=rfl
  have a2:ibB 0 (([m]:List GMsg).length:Int)=true:=rfl
  have a3:∀ (d:GMsg),lget [m] 0 d=m:=fun d=>rfl
  have a4:IntKind.i64.wrap (0+1)=1:=rfl
  have a5:decide ((1:Int) < (([m]:List GMsg).length:Int))=false:=rfl
  simp only [a1,a2,a3,a4,a5,cond_true,cond_false]
  change (g.length < 16384∧Gm (n+2) m∧(z4o (n+2) m).bind _=_)∨((z4o (n+2) m).bind _=_)
  rcases z154 hN hr with ⟨hm,hs,h⟩ | ⟨hm,hs,h⟩ | ⟨hm,h⟩
  · rw [h]
    simp only [Option.bind_some,beq_self_eq_true,Bool.not_true,Bool.false_or]
    by_cases hf:16384≤g.length
    · have e0:decide ((16384:Int)≤((g.length:Nat):Int))=true:=by simp; omega
      simp only [e0,cond_true]
      exact .inr trivial
    · have e0:decide ((16384:Int)≤((g.length:Nat):Int))=false:=by simp; omega
      simp only [e0,cond_false,push_eq (N:=n+2) (f:=m.From) (t:=m.To) (d:=zbm (msB m)) (show g.length≤100000 by omega) h0 h1,Option.bind_some]
      exact .inl ⟨by omega,⟨hm,hs,hr⟩,rfl⟩
  · rw [h]; exact .inr rfl
  · rw [h]; exact .inr rfl
theorem twin_eq (hN:g.length < N) (hl:g.length≤100000) (hd:∀ s∈g,s.Data.length≤70368744177664):zck N g.length g=some (g.length,g,g):=by
  unfold zck z9v z9u
  have e0:(g.drop 0).take g.length=g:=by simp
  have e1:(lenB g.length 64&&Nat.ble (0+g.length) g.length)=true:=by rw [zd6 (by omega)]; simp
  simp only [e0,e1,Bool.true_or,cond_true,Option.bind_some]
  refine z2i (fun s=>s.g1=g∧0≤s.t8∧s.t8≤(g.length:Int)) (fun s=>g.length - s.t8.toNat) ?_ N _ ⟨rfl,Int.le_refl _,by simp⟩ (by simp; omega)
  rintro ⟨t,b⟩ next ⟨h1,h2,h3⟩ hn
  simp only at h1 h2 h3
  subst h1
  by_cases ht:t < b.length
  · have e1:decide (t < ((b.length:Nat):Int))=true:=by simp; omega
    have e2:ibB t ((b.length:Nat):Int)=true:=z3x h2 (by omega)
    have e3:decide (t.toNat < b.length)=true:=by simp; omega
    have hget:=zmu (default:GSent) (l:=b) (i:=t.toNat) (by omega)
    simp only [e1,e2,e3,cond_true]
    rw [zyv (hd _ (by rw [hget]; exact List.getElem_mem _)),Option.bind_some,z20 (by omega) (by omega)]
    refine hn _ ⟨?_,by simp only; omega,by simp only; omega⟩ (by simp only; omega)
    show b.set t.toNat (b.getD t.toNat default)=b
    rw [hget,List.set_getElem_self]
  · have e1:decide (t < ((b.length:Nat):Int))=false:=by simp; omega
    simp only [e1,cond_false]
theorem all_eq (hN:g.length < N) (hl:g.length≤100000) (hd:∀ s∈g,s.Data.length≤70368744177664):zbo N g.length last true g=some (g.length,last,true,g,g.length,g):=by
  unfold zbo z2m
  simp only [Option.bind_some,Bool.not_true,Bool.not_false,cond_true,twin_eq hN hl hd]
theorem all1_eq (hN:g.length < N) (hl:g.length≤100000) (hd:∀ s∈g,s.Data.length≤70368744177664):za1 N g.length g=some (g.length,g.length,g,g.map (·.Number)):=by
  unfold za1 zcn
  simp only [twin_eq hN hl hd,Option.bind_some]
  refine z2i (fun s=>0≤s.t8∧s.t8≤(g.length:Int)∧s.b2=s.t8.toNat∧s.g5=(g.take s.t8.toNat).map (·.Number)) (fun s=>g.length - s.t8.toNat) ?_ N _ ⟨Int.le_refl _,by simp,rfl,rfl⟩ (by simp; omega)
  rintro ⟨t,b,l⟩ next ⟨h1,h2,h3,h4⟩ hn
  simp only at h1 h2 h3 h4
  subst h3; subst h4
  by_cases ht:t < g.length
  · have e1:decide (t < ((g.length:Nat):Int))=true:=by simp; omega
    have e2:ibB t ((g.length:Nat):Int)=true:=z3x h1 (by omega)
    have e3:decide (t.toNat < g.length)=true:=by simp; omega
    have hll:((g.take t.toNat).map (·.Number)).length=t.toNat:=by simp; omega
    have e4:(lenB (t.toNat+1) 8&&Nat.ble t.toNat ((g.take t.toNat).map (·.Number)).length)=true:=by rw [zd6 (by omega),hll]; simp
    simp only [e1,e2,e3,e4,cond_true,List.length_singleton,Option.bind_some]
    rw [z20 (by omega) (by omega)]
    have hq:(t+1).toNat=t.toNat+1:=by omega
    refine hn _ ⟨by simp only; omega,by simp only; omega,by simp only; omega,?_⟩ (by simp only; omega)
    simp only [hq]
    rw [List.take_of_length_le (by omega),zmu _ (show t.toNat < g.length by omega),List.take_succ_eq_append_getElem (by omega),List.map_append]
    rfl
  · have e1:decide (t < ((g.length:Nat):Int))=false:=by simp; omega
    have hq:t.toNat=g.length:=by omega
    simp only [e1,cond_false,hq,List.take_length]
theorem len_eq:z9i N g.length last true g=some (((g.length:Nat):Int),g.length,last,true,g):=rfl
end
end Go.Proofs.YtddpmkmgbdedlaaGreat
