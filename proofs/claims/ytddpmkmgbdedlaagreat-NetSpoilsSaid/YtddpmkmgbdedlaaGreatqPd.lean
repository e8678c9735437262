/-
The law NetSpoils.
-/
import Derived.Test.YtddpmkmgbdedlaaGreatqPc
set_option linter.unusedVariables false
set_option linter.unusedSimpArgs false
set_option maxRecDepth 100000
namespace Go.Proofs.YtddpmkmgbdedlaaGreat
open Go Go.Ev
section
variable {N:Nat}
theorem aVO (hN:300≤N):∃ ms,zK N []=some (true,ms):=by
 have h:(zK N []).map (·.1)=some true:=by
  obtain ⟨k,rfl⟩:∃ k,N=k+300:=⟨N - 300,by omega⟩
  kernel_rfl
 cases e:zK N [] with
 | none=>rw [e] at h; cases h
 | some r =>
  rw [e] at h
  obtain ⟨x,ms⟩:=r
  simp at h
  subst h
  exact ⟨ms,rfl⟩
theorem q_nil (ms:fV):Q ms [] 0 []:=⟨Nat.le_refl _,⟨by simp,by simp,rfl⟩,by omega,by simp⟩
theorem aVP (hN:1048700≤N) {m:aB} (hr:roomM N m) {at_ bit:Int} (ha:0≤at_∧at_≤65535) (hb:0≤bit∧bit≤255):∃ ms,aBh N m at_ bit []=some (true,ms):=by
 unfold aBh aBi
 obtain ⟨ms0,hl⟩:=aVO (N:=N) (by omega)
 obtain ⟨ms1,g1,b1,hs,hq⟩:=aVN (N:=N) hN (l:=[m]) (by simp; omega) (by simp) (by simpa using hr) (q_nil ms0) (Int.le_refl 0) (by simp)
 simp only [Option.bind_some,hl,Bool.not_true,cond_false]
 rw [hs,Option.bind_some]
 have hmar:=aVM hN hr
 cases hf:lM m with
 | false =>
  have e:fW [m] 0 0 []=(0,0,[]):=by simp [fW,hf]
  rw [e] at hq ⊢
  rw [hf,cond_false] at hmar
  simp only [show ((0:Int)==1)=false from rfl,Bool.not_false,cond_true]
  rw [hmar,Option.bind_some]
  cases hY m<;>exact ⟨_,rfl⟩
 | true =>
  have e:fW [m] 0 0 []=(1,1,[⟨1,m.From,m.To,aW (msB m)⟩]):=by simp [fW,hf]
  rw [e] at hq ⊢
  rw [hf,cond_true] at hmar
  have hm:lA m∧(msB m).length≤1048576:=by
   unfold lM at hf
   simp only [Bool.and_eq_true,decide_eq_true_eq] at hf
   exact ⟨(xE hr.byt).1 hf.1,hf.2⟩
  obtain ⟨f1,f2,f3⟩:=aMT hr.byt hm.1 hm.2
  simp only [beq_self_eq_true,Bool.not_true,cond_false]
  rw [hmar,Option.bind_some]
  have d1:(((aW (msB m)).length:Int)==0)=false:=by simp; intro h; simp [h] at f2
  have hmod:0≤Int.tmod bit 8∧Int.tmod bit 8 < 8:=⟨Int.tmod_nonneg _ hb.1,Int.tmod_lt_of_pos _ (by decide)⟩
  simp only [d1,Bool.not_false,cond_true,decide_eq_true hmod.1]
  rw [bH (n:=at_) (by omega) (by omega)]
  obtain ⟨t0,t1⟩:=aYI ha.1 (m:=((aW (msB m)).length:Int)) (by omega)
  generalize Int.tmod at_ ((aW (msB m)).length:Int)=p at t0 t1
  have hi:idx [(⟨1,m.From,m.To,aW (msB m)⟩:cC)] 1=some 0:=rfl
  obtain ⟨ms2,hsp,hq2⟩:=aVJ (N:=N) (last:=1) (with_:=shl .u8 1 (Int.tmod bit 8)) (by omega) hq hi t0 t1
  have hlen:=hq.len
  simp only [List.length_singleton] at hlen
  subst hlen
  rw [hsp,Option.bind_some]
  simp only [beq_self_eq_true,Bool.not_true,cond_false]
  have hk:p.toNat < (aW (msB m)).length:=by omega
  have hx:(aW (msB m)).getD p.toNat default=(aW (msB m))[p.toNat]:=mP _ hk
  obtain ⟨x1,x2⟩:=aY1 (f1 _ (List.getElem_mem hk)) hmod.1 hmod.2
  have hset:([(⟨1,m.From,m.To,aW (msB m)⟩:cC)].set 0 { ([(⟨1,m.From,m.To,aW (msB m)⟩:cC)].getD 0 default) with Data:=([(⟨1,m.From,m.To,aW (msB m)⟩:cC)].getD 0 default).Data.set p.toNat (bits .xor .u8 (([(⟨1,m.From,m.To,aW (msB m)⟩:cC)].getD 0 default).Data.getD p.toNat default) (shl .u8 1 (Int.tmod bit 8))) }) =
   [(⟨1,m.From,m.To,(aW (msB m)).set p.toNat (bits .xor .u8 (aW (msB m))[p.toNat] (shl .u8 1 (Int.tmod bit 8)))⟩:cC)]:=by
   rw [← hx]; rfl
  rw [hset] at hq2
  generalize bits .xor .u8 (aW (msB m))[p.toNat] (shl .u8 1 (Int.tmod bit 8))=y at x1 x2 hq2
  have hi2:idx [(⟨1,m.From,m.To,(aW (msB m)).set p.toNat y⟩:cC)] 1=some 0:=rfl
  obtain ⟨ht,hq3⟩:=aVH (N:=N) (last:=1) hN hq2 hi2
  rw [ht,Option.bind_some]
  have hbad:=aY3 hm.2 (aDN hr.byt hm.1) hk x1 x2
  obtain ⟨e,he,hu⟩:∃ e:Int,e≠0∧umM ((aW (msB m)).set p.toNat y)=(oM,e):=by
   unfold umM
   by_cases h1:(unB ((aW (msB m)).set p.toNat y)).2.2≠0
   ·exact ⟨_,h1,by rw [if_pos h1]⟩
   ·rw [if_neg h1,if_pos (hbad.resolve_left h1)]
    exact ⟨13,by decide,rfl⟩
  rw [show ([(⟨1,m.From,m.To,(aW (msB m)).set p.toNat y⟩:cC)].getD 0 default).Data=(aW (msB m)).set p.toNat y from rfl,hu]
  have he':(e==0)=false:=by simpa using he
  simp only [he',Bool.not_false,cond_true,Bool.true_and]
  change ∃ ms,(sA N oM oM).bind _=_
  rw [aY4 (by omega)]
  exact ⟨_,rfl⟩
end
end Go.Proofs.YtddpmkmgbdedlaaGreat
