/-
The law NetBack.
-/
import Derived.Test.YtddpmkmgbdedlaaGreatqKb
set_option linter.unusedVariables false
set_option maxRecDepth 100000
namespace Go.Proofs.YtddpmkmgbdedlaaGreat
open Go Go.Ev
variable {N:Nat}
structure Inv (N:Nat) (ks:List Int) (ms:List GMsg) (last:Int):Prop where
  len:ks.length=ms.length
  pw:ks.Pairwise (· < ·)
  le:∀ k∈ks,k≤last
  good:∀ m∈ms,Gm N m
  most:ms.length≤16384
section
variable {ks:List Int} {ms:List GMsg} {last:Int} {i:Nat}
theorem Inv.qlen (h:Inv N ks ms last):(qz ks ms).length=ms.length:=by simp [qz,h.len]
theorem Inv.get (h:Inv N ks ms last) (hi:i < ms.length):(qz ks ms).getD i default=zgx (ks.getD i default) (ms.getD i default):=by
  rw [zmu _ (by rw [h.qlen]; exact hi),zmu _ (by rw [h.len]; exact hi),zmu _ hi]
  simp [qz]
theorem Inv.mem (h:Inv N ks ms last) (hi:i < ms.length):Gm N (ms.getD i default):=by
  rw [zmu _ hi]; exact h.good _ (List.getElem_mem _)
theorem Inv.kle (h:Inv N ks ms last) (hi:i < ms.length):ks.getD i default≤last:=by
  rw [zmu _ (by rw [h.len]; exact hi)]; exact h.le _ (List.getElem_mem _)
theorem Inv.lt (h:Inv N ks ms last) {j:Nat} (hj:j < i) (hi:i < ms.length):ks.getD j default < ks.getD i default:=by
  have:=h.len
  rw [zmu _ (by omega),zmu _ (by omega)]
  exact List.pairwise_iff_getElem.1 h.pw j i _ _ hj
theorem Inv.data (h:Inv N ks ms last):∀ s∈qz ks ms,s.Data.length≤70368744177664:=fun s hs=>by
  obtain ⟨i,hi,rfl⟩:=List.getElem_of_mem hs
  have hi':i < ms.length:=by rw [← h.qlen]; exact hi
  have:=h.get hi'
  rw [zmu _ hi] at this
  rw [this]
  have:=zxl (h.mem hi').len
  show (zbm _).length≤_
  omega
theorem Inv.nums (h:Inv N ks ms last):(qz ks ms).map (·.Number)=ks:=by
  apply List.ext_getElem
  · simp [qz,h.len]
  · intro i h1 h2
    simp [qz,zgx]
theorem Inv.push (h:Inv N ks ms last) {m:GMsg} (hm:Gm N m) (hl:ms.length < 16384):Inv N (ks++[last+1]) (ms++[m]) (last+1)∧qz (ks++[last+1]) (ms++[m])=qz ks ms++[zgx (last+1) m]:=by
  refine ⟨⟨by simp [h.len],?_,?_,?_,by simp; omega⟩,?_⟩
  · refine List.pairwise_append.2 ⟨h.pw,by simp,fun a ha b hb=>?_⟩
    have:=h.le a ha
    simp at hb; omega
  · intro k hk
    rcases List.mem_append.1 hk with hk | hk
    · have:=h.le k hk; omega
    · simp at hk; omega
  · intro k hk
    rcases List.mem_append.1 hk with hk | hk
    · exact h.good k hk
    · simp at hk; subst hk; exact hm
  · unfold qz
    rw [List.zipWith_append h.len]; rfl
theorem Inv.drop (h:Inv N ks ms last) (hi:i < ms.length):Inv N (ks.take i++ks.drop (i+1)) (ms.take i++ms.drop (i+1)) (last+1)∧qz (ks.take i++ks.drop (i+1)) (ms.take i++ms.drop (i+1))=(qz ks ms).take i++(qz ks ms).drop (i+1):=by
  have e1:ks.take i++ks.drop (i+1)=ks.eraseIdx i:=by rw [List.eraseIdx_eq_take_drop_succ]
  have e2:ms.take i++ms.drop (i+1)=ms.eraseIdx i:=by rw [List.eraseIdx_eq_take_drop_succ]
  have hl:=h.len
  refine ⟨⟨by simp [h.len],?_,?_,?_,?_⟩,?_⟩
  · rw [e1]; exact h.pw.sublist (List.eraseIdx_sublist _ _)
  · intro k hk; rw [e1] at hk; have:=h.le k ((List.eraseIdx_sublist _ _).subset hk); omega
  · intro k hk; rw [e2] at hk; exact h.good k ((List.eraseIdx_sublist _ _).subset hk)
  · rw [e2]; have:=List.length_eraseIdx_le ms i; have:=h.most; omega
  · unfold qz
    rw [List.zipWith_append (by simp; omega),List.take_zipWith,List.drop_zipWith]
theorem netBack_F (hN:1048700≤N) {l:List GMsg} {order:List Int} (hlN:l.length+order.length < N) (hl:∀ m∈l,roomM N m) (hl2:l.length≤9223372036854775807) (ho2:order.length≤9223372036854775807) (ho:∀ x∈order,0≤x∧x≤255) :
    ze7 N l order=some true:=by
  unfold ze7 zux
  simp only [Option.bind_some,lett_eq (show 200≤N by omega),Bool.not_true,cond_false]
  refine z2i (fun s=>∃ ks,Inv N ks s.g2 s.b02∧s.want=s.g2.length∧s.b0=(qz ks s.g2).length∧s.g3=qz ks s.g2∧s.b03=true∧s.b02=(s.g2.length:Int)∧0≤s.t33∧s.t33≤(l.length:Int)) (fun s=>l.length - s.t33.toNat) ?_ N _
    ⟨[],⟨rfl,.nil,by simp,by simp,by simp⟩,rfl,rfl,rfl,rfl,rfl,Int.le_refl _,by simp⟩ (by simp; omega)
  rintro ⟨want,t,b0,last,b03,ms,g3⟩ next ⟨ks,hI,h1,h2,h3,h4,h5,h6,h7⟩ hn
  simp only at hI h1 h2 h3 h4 h5 h6 h7
  subst h1 h2 h3 h4
  have hmost:=hI.most
  have hql:=hI.qlen
  by_cases ht:t < l.length
  · have e1:decide (t < ((l.length:Nat):Int))=true:=by simpa using ht
    have e2:ibB t ((l.length:Nat):Int)=true:=z3x h6 ht
    simp only [e1,e2,cond_true]
    change (z4e N [lget l t default] (qz ks ms).length last true (qz ks ms)).bind _=some true
    have hw:IntKind.i64.wrap (t+1)=t+1:=z20 (by omega) (by omega)
    rcases send_eq (g:=qz ks ms) (last:=last) hN (hl _ (za9 default h6 ht)) (by omega) (by omega) (by omega) with ⟨q1,q2,q3⟩ | q3
    · rw [q3]
      obtain ⟨k1,k2⟩:=hI.push q2 (by omega)
      have e3:(lenB (ms.length+1) 952&&Nat.ble ms.length ms.length)=true:=by rw [zd6 (by omega),Nat.ble_self_eq_true]; rfl
      simp only [Option.bind_some,beq_self_eq_true,Bool.and_self,cond_true,List.length_singleton,e3,hw]
      refine hn _ ⟨ks++[last+1],?_,?_,?_,?_,rfl,?_,by simp only; omega,by simp only; omega⟩ (by simp only; omega)
      · simp only [List.take_length]; exact k1
      · simp only [List.take_length]; simp
      · simp only [List.take_length]
        show _=(qz (ks++[last+1]) (ms++[lget l t default])).length
        rw [k2]; simp
      · simp only [List.take_length]
        show _=qz (ks++[last+1]) (ms++[lget l t default])
        rw [k2]
      · simp only [List.take_length]; simp; omega
    · rw [q3]
      simp only [Option.bind_some,show ((0:Int)==1)=false from rfl,Bool.and_false,cond_false,hw]
      exact hn _ ⟨ks,hI,rfl,rfl,rfl,rfl,h5,by simp only; omega,by simp only; omega⟩ (by simp only; omega)
  · have e1:decide (t < ((l.length:Nat):Int))=false:=by simpa using ht
    simp only [e1,cond_false]
    rw [all_eq (by omega) (by omega) hI.data,Option.bind_some]
    simp only
    rw [all1_eq (by omega) (by omega) hI.data,Option.bind_some,hI.nums]
    have e2:(!(((qz ks ms).length:Int)==((ms.length:Nat):Int)))=false:=by rw [hql]; simp
    simp only [e2,cond_false]
    refine z2i (fun s=>∃ ks ms,Inv N ks ms s.b02∧s.want=ms.length∧s.g9=ms∧s.b0=(qz ks ms).length∧s.g10=qz ks ms∧s.b03=true∧s.b4=ms.length∧s.g11=ks∧0≤s.b02∧s.b02+(ms.length:Int)≤32768∧0≤s.t70∧s.t70≤(order.length:Int)) (fun s=>order.length - s.t70.toNat) ?_ N _
      ⟨ks,ms,hI,rfl,rfl,rfl,rfl,rfl,hql,rfl,by simp only; omega,by simp only; omega,Int.le_refl _,by simp⟩ (by simp; omega)
    clear hn e2 hql hmost hI h5 h6 h7 e1 ht
    clear ks ms last t next
    rintro ⟨want,t,b0,last,b03,b4,g9,g10,g11⟩ next ⟨ks,ms,hI,h1,h2,h3,h4,h5,h6,h7,h8,h9,h10,h11⟩ hn
    simp only at hI h1 h2 h3 h4 h5 h6 h7 h8 h9 h10 h11
    subst h1 h2 h3 h4 h5 h6 h7
    have hmost:=hI.most
    have hql:=hI.qlen
    have hkl:=hI.len
    by_cases ht:t < order.length
    · have e1:decide (t < ((order.length:Nat):Int))=true:=by simpa using ht
      have e2:ibB t ((order.length:Nat):Int)=true:=z3x h10 ht
      have hwt:IntKind.i64.wrap (t+1)=t+1:=z20 (by omega) (by omega)
      simp only [e1,e2,cond_true]
      by_cases hz:g9.length=0
      · have e3:(((g9.length:Nat):Int)==0)=true:=by simp [hz]
        simp only [e3,cond_true,len_eq,Option.bind_some]
        rw [hql]; simp
      · have e3:(((g9.length:Nat):Int)==0)=false:=beq_eq_false_iff_ne.2 (by omega)
        have hx:=ho _ (za9 default h10 ht)
        have hi:∃ i:Nat,i < g9.length∧Int.tmod (IntKind.i64.wrap (lget order t default)) ((g9.length:Nat):Int)=(i:Int):=by
          refine ⟨(lget order t default).toNat % g9.length,Nat.mod_lt _ (by omega),?_⟩
          rw [z20 (by omega) (by omega)]
          have:lget order t default=((lget order t default).toNat:Int):=by omega
          rw [this,Int.tmod_eq_emod_of_nonneg (by omega),Int.toNat_natCast]
          simp
        obtain ⟨i,hi,hie⟩:=hi
        have e4:ibB (i:Int) ((g9.length:Nat):Int)=true:=z3x (by omega) (by omega)
        have e5:decide (i < g11.length)=true:=by simp; omega
        have e6:decide (i < g9.length)=true:=by simp; omega
        have hwi:IntKind.i64.wrap ((i:Int)+1)=(i:Int)+1:=z20 (by omega) (by omega)
        have ti:((i:Int)+1).toNat=i+1:=by omega
        have hget:=hI.get hi
        have hmem:=hI.mem hi
        have hnum:((qz g11 g9).getD i default).Number=g11.getD i default:=by rw [hget]; rfl
        have hfirst:∀ j,j < i→((qz g11 g9).getD j default).Number≠g11.getD i default:=fun j hj=>by
          rw [hI.get (by omega)]
          have:=hI.lt hj hi
          show g11.getD j default≠_
          omega
        simp only [e3,Bool.not_false,cond_false,cond_true,hie,e4,e5,Int.toNat_natCast]
        by_cases hf:16384≤(qz g11 g9).length
        · rw [z12q (by omega) (by omega) (by omega) hnum hfirst hf]
          have:decide ((16384:Int)≤((g9.length:Nat):Int))=true:=by simp; omega
          simp only [Option.bind_some,show ((6:Int)==0)=false from rfl,Bool.not_false,cond_true,this]
        · rw [double_eq (by omega) (by omega) (by omega) hnum hfirst hf (by omega) (by omega) (by rw [hget]; have := zxl hmem.len; show (zbm _).length ≤ _; omega)]
          have hse:(⟨last+1,((qz g11 g9).getD i default).From,((qz g11 g9).getD i default).To,((qz g11 g9).getD i default).Data⟩:GSent)=zgx (last+1) (g9.getD i default):=by rw [hget]; rfl
          rw [hse]
          simp only [Option.bind_some,beq_self_eq_true,Bool.not_true,cond_false]
          generalize hm:g9.getD i default=m at *
          obtain ⟨k1,k2⟩:=hI.drop hi
          have hn0:∀ j,j < (qz g11 g9).length→((qz g11 g9).getD j default).Number≠last+1:=fun j hj=>by
            rw [hI.get (by omega)]
            have:=hI.kle (i:=j) (by omega)
            show g11.getD j default≠_
            omega
          refine z2i (fun s=>s=⟨0,(qz g11 g9).length+1,last+1,true,qz g11 g9++[zgx (last+1) m]⟩∨s=⟨1,(qz g11 g9).length,last+1,true,qz g11 g9⟩∨s=⟨2,(qz g11 g9).length - 1,last+1,true,(qz g11 g9).take i++(qz g11 g9).drop (i+1)⟩) (fun s=>3 - s.t103.toNat) ?_ N _ (.inl rfl) (by simp; omega)
          rintro s nx hs hnx
          rcases hs with rfl | rfl | rfl
          · have a1:decide ((0:Int) < (([last+1,g11.getD i default]:List Int).length:Int))=true:=rfl
            have a2:ibB 0 (([last+1,g11.getD i default]:List Int).length:Int)=true:=rfl
            have a3:∀ d:Int,lget [last+1,g11.getD i default] 0 d=last+1:=fun d=>rfl
            have g0:((qz g11 g9++[zgx (last+1) m]).getD (qz g11 g9).length default)=zgx (last+1) m:=by simp [List.getD]
            have gj:∀ j,j < (qz g11 g9).length→((qz g11 g9++[zgx (last+1) m]).getD j default).Number≠last+1:=fun j hj=>by
              rw [show (qz g11 g9++[zgx (last+1) m]).getD j default=(qz g11 g9).getD j default by simp [List.getD,List.getElem?_append_left hj]]
              exact hn0 j hj
            have t1:=z113 (N:=N) (g:=qz g11 g9++[zgx (last+1) m]) (k:=last+1) (last:=last+1) (i:=(qz g11 g9).length) (by omega) hN (by simp; omega) (by simp; omega) (by simp) (by rw [g0]; rfl) gj hmem (by rw [g0]; rfl)
            rw [show (qz g11 g9++[zgx (last+1) m]).length=(qz g11 g9).length+1 by simp,show (qz g11 g9++[zgx (last+1) m]).take (qz g11 g9).length++(qz g11 g9++[zgx (last+1) m]).drop ((qz g11 g9).length+1)=qz g11 g9 by simp,Nat.add_sub_cancel] at t1
            obtain ⟨z,t2⟩:=z114 (N:=N) (g:=qz g11 g9) (k:=last+1) (last:=last+1) (by omega) (by omega) hn0
            simp only [a1,a2,a3,cond_true,t1,Option.bind_some,beq_self_eq_true,Bool.not_true,Bool.not_false,Bool.false_or,e6]
            rw [zsj hmem.room,show sameM m _=true from zz1 hmem.room.byt,Option.bind_some]
            simp only [Bool.not_true,cond_false,t2,Option.bind_some,beq_self_eq_true]
            exact hnx _ (.inr (.inl rfl)) (by simp only; decide)
          · have a1:decide ((1:Int) < (([last+1,g11.getD i default]:List Int).length:Int))=true:=rfl
            have a2:ibB 1 (([last+1,g11.getD i default]:List Int).length:Int)=true:=rfl
            have a3:∀ d:Int,lget [last+1,g11.getD i default] 1 d=g11.getD i default:=fun d=>rfl
            have t1:=z113 (N:=N) (g:=qz g11 g9) (k:=g11.getD i default) (last:=last+1) (i:=i) (by omega) hN (by omega) (by omega) (by omega) hnum hfirst hmem (by rw [hget]; rfl)
            have hl':((qz g11 g9).take i++(qz g11 g9).drop (i+1)).length=(qz g11 g9).length - 1:=by simp; omega
            obtain ⟨z,t2⟩:=z114 (N:=N) (g:=(qz g11 g9).take i++(qz g11 g9).drop (i+1)) (k:=g11.getD i default) (last:=last+1) (by omega) (by omega) (fun j hj=>by
              rw [← k2] at hj ⊢
              have hj':j < (g9.take i++g9.drop (i+1)).length:=by rw [← k1.qlen]; exact hj
              rw [k1.get hj']
              show (g11.take i++g11.drop (i+1)).getD j default≠g11.getD i default
              have hjk:j < (g11.take i++g11.drop (i+1)).length:=by rw [k1.len]; exact hj'
              rw [zmu _ hjk,zmu _ (show i < g11.length by omega)]
              by_cases hji:j < i
              · rw [List.getElem_append_left (by simp; omega),List.getElem_take]
                have:=List.pairwise_iff_getElem.1 hI.pw j i (by omega) (by omega) hji
                omega
              · rw [List.getElem_append_right (by simp; omega),List.getElem_drop]
                simp only [List.length_take]
                simp at hjk
                have:=List.pairwise_iff_getElem.1 hI.pw i (i+1+(j - min i g11.length)) (by omega) (by omega) (by omega)
                omega)
            rw [hl'] at t2
            simp only [a1,a2,a3,cond_true,t1,Option.bind_some,beq_self_eq_true,Bool.not_true,Bool.not_false,Bool.false_or,e6]
            rw [zsj hmem.room,show sameM m _=true from zz1 hmem.room.byt,Option.bind_some]
            simp only [Bool.not_true,cond_false,t2,Option.bind_some,beq_self_eq_true]
            exact hnx _ (.inr (.inr rfl)) (by simp only; decide)
          · have a1:decide ((2:Int) < (([last+1,g11.getD i default]:List Int).length:Int))=false:=rfl
            have d1:(g11.drop (0+(i+1))).take (g9.length - (i+1))=g11.drop (i+1):=by rw [Nat.zero_add]; exact List.take_of_length_le (by simp; omega)
            have d2:(g9.drop (0+(i+1))).take (g9.length - (i+1))=g9.drop (i+1):=by rw [Nat.zero_add]; exact List.take_of_length_le (by simp)
            have c1:cutW 0 (i:Int) ((g9.length:Nat):Int) ((g9.length:Nat):Int)=true:=by simp [cutW]; omega
            have c2:cutW ((i:Int)+1) ((g9.length:Nat):Int) ((g9.length:Nat):Int) ((g9.length:Nat):Int)=true:=by simp [cutW]; omega
            have l1:(g11.drop (i+1)).length=g9.length - (i+1):=by simp; omega
            have l2:(g9.drop (i+1)).length=g9.length - (i+1):=by simp
            have c3:(lenB (i+(g9.length - (i+1))) 8&&Nat.ble i g11.length&&Nat.ble (0+(i+1)+(g9.length - (i+1))) g11.length)=true:=by
              rw [zd6 (by omega),Nat.ble_eq_true_of_le (by omega),Nat.ble_eq_true_of_le (by omega)]; rfl
            have c4:(lenB (i+(g9.length - (i+1))) 952&&Nat.ble i g9.length&&Nat.ble (0+(i+1)+(g9.length - (i+1))) g9.length)=true:=by
              rw [zd6 (by omega),Nat.ble_eq_true_of_le (by omega),Nat.ble_eq_true_of_le (by omega)]; rfl
            simp only [a1,cond_false,hwi,ti,d1,d2,c1,c2,l1,l2,c3,c4,cond_true,hwt]
            have hn1:(g9.take i++g9.drop (i+1)).length=i+(g9.length - (i+1)):=by simp; omega
            refine hn _ ⟨g11.take i++g11.drop (i+1),g9.take i++g9.drop (i+1),k1,hn1.symm,rfl,?_,k2.symm,rfl,hn1.symm,rfl,by simp only; omega,by simp only [hn1]; omega,by simp only; omega,by simp only; omega⟩ (by simp only; omega)
            simp only [k2]; simp; omega
    · have e1:decide (t < ((order.length:Nat):Int))=false:=by simpa using ht
      simp only [e1,cond_false,len_eq,Option.bind_some]
      rw [hql]; simp
theorem z13h {m:GMsg}:∀ {l:List GMsg},m∈l→sizeM m≤(l.map sizeM).sum
  | x :: l, h => by
    rcases List.mem_cons.1 h with rfl | h
    · simp
    · have:=z13h h; simp; omega
end
end Go.Proofs.YtddpmkmgbdedlaaGreat
