/-
Plain laws of another seat,turned to this one by wip/tools/ren2.py.
-/
import Derived.Test.YtddpmkmgbdedlaaGreatqFd
import Derived.Test.YtddpmkmgbdedlaaGreatqTvT
import Derived.Test.YtddpmkmgbdedlaaGreatqRd
import Derived.Test.YtddpmkmgbdedlaaGreatqTvT
import Derived.Laws.BitsAllLaws
set_option linter.unusedVariables false
set_option linter.unusedSimpArgs false
namespace Go.Proofs.YtddpmkmgbdedlaaGreat
open Go Go.Ev
def R32 (s:Int):Prop:=0≤s∧s < 4294967296
theorem oJ {a b:Int} (ha:R32 a) (hb:R32 b):R32 (bits .xor .u32 a b):=by
 rw [u32_xor a b ha.1 ha.2 hb.1 hb.2]
 have h1:=ha.1; have h2:=ha.2; have h3:=hb.1; have h4:=hb.2
 have:=Nat.xor_lt_two_pow (x:=a.toNat) (y:=b.toNat) (n:=32) (by omega) (by omega)
 exact ⟨by omega,by omega⟩
theorem aXK {s:Int} (h:R32 s):bits .and .u32 s 1=s % 2:=by
 rw [u32_and s 1 h.1 h.2 (by decide) (by decide)]
 have:(1:Int).toNat=1:=rfl
 rw [this,nat_mask1]
 have:=h.1
 omega
theorem aXL (s:Int):shr .u32 s 1=s / 2:=by
 simp only [shr,IntKind.bits]
 rw [show (min (1:Int).toNat 32)=1 from rfl,Int.fdiv_eq_ediv_of_nonneg _ (by decide)]
 rfl
def kV (s:Int):Int:=if s % 2=1 then bits .xor .u32 (s / 2) 3988292384 else s / 2
theorem aAG {s:Int} (h:R32 s):R32 (kV s):=by
 have h1:=h.1; have h2:=h.2
 have hd:R32 (s / 2):=⟨by omega,by omega⟩
 unfold kV; split
 ·exact oJ hd ⟨by decide,by decide⟩
 ·exact hd
def iO:Nat→Int→Int
 | 0,s=>s
 | n+1,s=>iO n (kV s)
def dQ (s b:Int):Int:=iO 8 (bits .xor .u32 s b)
theorem aOx:∀ (n:Nat) {s:Int},R32 s→R32 (iO n s)
 | 0,_,h=>h
 | n+1,_,h=>aOx n (aAG h)
def bS (b:Int):Prop:=0≤b∧b≤255
theorem oK {s b:Int} (h:R32 s) (hb:bS b):R32 (dQ s b):=aOx 8 (oJ h ⟨hb.1,by have:=hb.2; omega⟩)
theorem wZ:∀ (l:List Int) {s:Int},R32 s→(∀ b∈l,bS b)→R32 (l.foldl dQ s)
 | [],_,h,_=>h
 | b :: l,_,h,hb=>wZ l (oK h (hb b (by simp))) fun x hx=>hb x (by simp [hx])
def cQ (l:List Int):Int:=bits .xor .u32 IntKind.u32.max (l.foldl dQ 4294967295)
def bI (u:Nat):List Int:=if h:u < 128 then [(u:Int)] else ((u % 128+128:Nat):Int) :: bI (u / 128)
 termination_by u
 decreasing_by omega
theorem tL {u:Nat} (h:u < 128):bI u=[(u:Int)]:=by rw [bI,dif_pos h]
theorem qQ {u:Nat} (h:128≤u):bI u=((u % 128+128:Nat):Int) :: bI (u / 128):=by rw [bI,dif_neg (by omega)]
theorem aOy:∀ (k u:Nat),u < 128 ^ (k+1)→(bI u).length≤k+1
 | k, u, h => by
  by_cases hu:u < 128
  ·rw [tL hu]; simp
  ·rw [qQ (by omega)]
   cases k with
   | zero=>simp at h; omega
   | succ k =>
    have:u / 128 < 128 ^ (k+1):=by rw [Nat.div_lt_iff_lt_mul (by decide)]; rw [← Nat.pow_succ]; exact h
    have:=aOy k _ this
    simp only [List.length_cons]; omega
theorem gZ {u:Nat} (h:u < 18446744073709551616):(bI u).length≤10:=aOy 9 u (Nat.lt_trans h (by decide))
theorem aXM (u:Nat):1≤(bI u).length:=by rw [bI]; split<;>simp
theorem aOz:∀ (k u:Nat),u < 128 ^ (k+1)→∀ b∈bI u,bS b
 | k, u, h, b, hb => by
  by_cases hu:u < 128
  ·rw [tL hu] at hb; simp at hb; subst hb; exact ⟨by omega,by omega⟩
  ·rw [qQ (by omega)] at hb
   rcases List.mem_cons.1 hb with rfl | hb
   ·exact ⟨by omega,by omega⟩
   ·cases k with
    | zero=>simp at h; omega
    | succ k =>
     have:u / 128 < 128 ^ (k+1):=by rw [Nat.div_lt_iff_lt_mul (by decide)]; rw [← Nat.pow_succ]; exact h
     exact aOz k _ this b hb
def zig (n:Int):Nat:=if n < 0 then (-2 * n - 1).toNat else (2 * n).toNat
def R64 (n:Int):Prop:=-9223372036854775808≤n∧n≤9223372036854775807
theorem jF {n:Int} (h:R64 n):zig n < 18446744073709551616:=by have h1:=h.1; have h2:=h.2; unfold zig; split<;>omega
theorem aXN {x:Nat} (h:x < 18446744073709551616):18446744073709551615 ^^^ x=18446744073709551615 - x:=by
 have e1:18446744073709551615=2 ^ 64 - 1:=by decide
 have e2:18446744073709551615 - x=2 ^ 64 - (x+1):=by omega
 rw [e2,e1]
 refine Nat.eq_of_testBit_eq fun i=>?_
 rw [Nat.testBit_xor,Nat.testBit_two_pow_sub_one,Nat.testBit_two_pow_sub_succ (by omega)]
 by_cases hi:i < 64
 ·simp [hi]
 ·have:x.testBit i=false:=Nat.testBit_lt_two_pow (Nat.lt_of_lt_of_le (show x < 2 ^ 64 by omega) (Nat.pow_le_pow_right (by decide) (by omega)))
  simp [hi,this]
theorem aOA {x:Int} (h0:0≤x) (h:x < 18446744073709551616):bits .xor .u64 IntKind.u64.max x=18446744073709551615 - x:=by
 rw [u64_xor _ x (by decide) (by decide) h0 h]
 rw [show IntKind.u64.max.toNat=18446744073709551615 from rfl,aXN (by omega)]
 omega
theorem aOB (a:Int):shl .u64 a 1=(a * 2) % 18446744073709551616:=by
 simp only [shl,IntKind.bits]
 rw [show (min (1:Int).toNat 64)=1 from rfl]
 simp [IntKind.wrap,IntKind.bits,IntKind.signed]
theorem shr64 {a:Int} {k:Nat} (hk:k < 64):shr .u64 a (k:Int)=a / (2 ^ k:Nat):=by
 simp only [shr,IntKind.bits]
 rw [show (min (k:Int).toNat 64)=k by omega,Int.fdiv_eq_ediv_of_nonneg _ (by exact Int.pow_nonneg (by decide))]
 simp
theorem nA (n:Int):IntKind.u64.wrap n=n % 18446744073709551616:=by simp [IntKind.wrap,IntKind.bits,IntKind.signed]
theorem xA (n:Int):IntKind.u8.wrap n=n % 256:=by simp [IntKind.wrap,IntKind.bits,IntKind.signed]
theorem or128:∀ x:Fin 256,x.val ||| 128=x.val % 128+128:=by decide +kernel
theorem aXO (u:Int) (h:0≤u):bits .or .u8 (IntKind.u8.wrap u) 128=u % 128+128:=by
 rw [xA,u8_or _ _ (by omega) (by omega) (by decide) (by decide)]
 have:=or128 ⟨(u % 256).toNat,by omega⟩
 simp only at this
 rw [show (128:Int).toNat=128 from rfl,this]
 omega
theorem aOC {N:Nat} (hN:11≤N) {u:Int} (h0:0≤u) (h1:u < 18446744073709551616):bE N (fun (s1:pH) next2 =>
   (bif (decide (128≤s1.u)) then
   (bif (aO ((s1.b).length+([(bits .or .u8 (IntKind.u8.wrap s1.u) 128)]).length) 1) then
   (next2 ⟨(shr .u64 s1.u 7),(s1.b++[(bits .or .u8 (IntKind.u8.wrap s1.u) 128)])⟩)
   else none)
   else
   (bif (aO ((s1.b).length+([(IntKind.u8.wrap s1.u)]).length) 1) then
   (some (s1.b++[(IntKind.u8.wrap s1.u)]))
   else none))) ⟨u,[]⟩=some (bI u.toNat):=by
 refine cH (fun q:pH=>0≤q.u∧q.u < 18446744073709551616∧q.b++bI q.u.toNat=bI u.toNat) (fun q=>(bI q.u.toNat).length) ?_ N _ ⟨h0,h1,by simp⟩ (by have:=gZ (u:=u.toNat) (by omega); simp only; omega)
 rintro ⟨q,b⟩ nx ⟨g0,g1,hq⟩ ih
 simp only at g0 g1 hq ih ⊢
 have hlen:=congrArg List.length hq
 have hv:=gZ (u:=u.toNat) (by omega)
 rw [List.length_append] at hlen
 rw [bY (by simp; omega),bY (by simp; omega)]
 by_cases h:128≤q
 ·simp only [decide_eq_true h,cond_true,aXO q g0]
  have e7:shr .u64 q 7=q / 128:=shr64 (k:=7) (by decide)
  rw [e7]
  have hge:=qQ (u:=q.toNat) (by omega)
  have ed:(q / 128).toNat=q.toNat / 128:=by omega
  refine ih ⟨q / 128,b++[q % 128+128]⟩ ⟨by simp; omega,by simp; omega,?_⟩ ?_
  ·simp only
   have ec:((q.toNat % 128+128:Nat):Int)=q % 128+128:=by omega
   rw [ed,← hq,hge,List.append_assoc,ec]
   rfl
  ·simp only; rw [ed,hge]; simp
 ·have hd:decide (128≤q)=false:=by simpa using h
  simp only [hd,cond_false,cond_true]
  rw [← hq,tL (u:=q.toNat) (by omega),xA]
  congr 3
  omega
theorem aKt {N:Nat} (hN:11≤N) {n:Int} (hn:R64 n):uN N n=some (bI (zig n)):=by
 have h1:=hn.1; have h2:=hn.2
 unfold uN
 by_cases h:n < 0
 ·simp only [decide_eq_true h,cond_true]
  have e:bits .xor .u64 IntKind.u64.max (shl .u64 (IntKind.u64.wrap n) 1)=-2 * n - 1:=by
   rw [aOB,nA,aOA (by omega) (by omega)]; omega
  rw [e,aOC hN (by omega) (by omega)]
  simp only [zig,if_pos h]
 ·have hd:decide (n < 0)=false:=by simpa using h
  simp only [hd,cond_false]
  have e:shl .u64 (IntKind.u64.wrap n) 1=2 * n:=by rw [aOB,nA]; omega
  rw [e,aOC hN (by omega) (by omega)]
  simp only [zig,if_neg h]
theorem aOD {N:Nat} (hN:11≤N) {u:Int} (h0:0≤u) (h1:u < 18446744073709551616):bE N (fun (s1:pU) next2 =>
   (bif (decide (128≤s1.u)) then
   (bif (aO ((s1.b).length+([(IntKind.u8.wrap ((IntKind.u8.wrap (Int.tmod s1.u 128))+128))]).length) 1) then
   (next2 ⟨(IntKind.u64.wrap (Int.tdiv s1.u 128)),(s1.b++[(IntKind.u8.wrap ((IntKind.u8.wrap (Int.tmod s1.u 128))+128))])⟩)
   else none)
   else
   (bif (aO ((s1.b).length+([(IntKind.u8.wrap s1.u)]).length) 1) then
   (some (s1.b++[(IntKind.u8.wrap s1.u)]))
   else none))) ⟨u,[]⟩=some (bI u.toNat):=by
 refine cH (fun q:pU=>0≤q.u∧q.u < 18446744073709551616∧q.b++bI q.u.toNat=bI u.toNat) (fun q=>(bI q.u.toNat).length) ?_ N _ ⟨h0,h1,by simp⟩ (by have:=gZ (u:=u.toNat) (by omega); simp only; omega)
 rintro ⟨q,b⟩ nx ⟨g0,g1,hq⟩ ih
 simp only at g0 g1 hq ih ⊢
 have hlen:=congrArg List.length hq
 have hv:=gZ (u:=u.toNat) (by omega)
 rw [List.length_append] at hlen
 rw [bY (by simp; omega),bY (by simp; omega)]
 by_cases h:128≤q
 ·simp only [decide_eq_true h,cond_true]
  have e7:IntKind.u64.wrap (Int.tdiv q 128)=q / 128:=by rw [Int.tdiv_eq_ediv_of_nonneg g0,nA]; omega
  have e8:IntKind.u8.wrap (IntKind.u8.wrap (Int.tmod q 128)+128)=q % 128+128:=by rw [Int.tmod_eq_emod_of_nonneg g0,xA,xA]; omega
  rw [e7,e8]
  have hge:=qQ (u:=q.toNat) (by omega)
  have ed:(q / 128).toNat=q.toNat / 128:=by omega
  refine ih ⟨q / 128,b++[q % 128+128]⟩ ⟨by simp; omega,by simp; omega,?_⟩ ?_
  ·simp only
   have ec:((q.toNat % 128+128:Nat):Int)=q % 128+128:=by omega
   rw [ed,← hq,hge,List.append_assoc,ec]
   rfl
  ·simp only; rw [ed,hge]; simp
 ·have hd:decide (128≤q)=false:=by simpa using h
  simp only [hd,cond_false,cond_true]
  rw [← hq,tL (u:=q.toNat) (by omega),xA]
  congr 3
  omega
theorem aAH {N:Nat} (hN:11≤N) {n:Int} (hn:R64 n):sE N n=some (bI (zig n)):=by
 have h1:=hn.1; have h2:=hn.2
 unfold sE
 by_cases h:n < 0
 ·simp only [decide_eq_true h,cond_true]
  have e:IntKind.u64.wrap (IntKind.u64.wrap (IntKind.u64.wrap (IntKind.i64.wrap (0 - IntKind.i64.wrap (n+1))) * 2)+1)=-2 * n - 1:=by
   rw [bH (n:=n+1) (by omega) (by omega),bH (by omega) (by omega),nA,nA,nA]; omega
  rw [e,aOD hN (by omega) (by omega)]
  simp only [zig,if_pos h]
 ·have hd:decide (n < 0)=false:=by simpa using h
  simp only [hd,cond_false]
  have e:IntKind.u64.wrap (IntKind.u64.wrap n * 2)=2 * n:=by rw [nA,nA]; omega
  rw [e,aOD hN (by omega) (by omega)]
  simp only [zig,if_neg h]
theorem aDF {N:Nat} {l:List Int} (h:l.length≤70368744177664):rS N l=some l:=by
 unfold rS aGo
 rw [bY (by omega)]
 rfl
def nB (w:List Int) (x:List Int):Int×Bool×List Int:=if w.length+x.length≤1048576 then (0,true,w++x) else (3,true,w)
theorem aOE {N:Nat} {l:List (List Int)} {w:List Int} (hN:l.length < N) (hl:l.length≤1000000) (hw:w.length≤1048576) (hm:∀ m∈l,m.length≤4611686018427387904):yP N l true w=some (nB w l.flatten):=by
 unfold yP yO
 simp only [Option.bind_some,Bool.not_true,cond_false]
 have second:w.length+l.flatten.length≤1048576→bE N (fun (s4:rN) next5 =>
    (bif (decide (s4.t35 < ((l).length:Int))) then
    (bif (ibB s4.t35 ((l).length:Int)) then
    (bif (aO ((s4.b02).length+((aA l s4.t35 default)).length) 1) then
    (next5 ⟨(IntKind.i64.wrap (s4.t35+1)),s4.b0,(s4.b02++(aA l s4.t35 default))⟩)
    else none)
    else none)
    else
    (some ((0:Int),s4.b0,s4.b02)))) ⟨0,true,w⟩=some (0,true,w++l.flatten):=fun htot=>by
  refine cH (fun q:rN=>0≤q.t35∧q.t35≤(l.length:Int)∧q.b0=true∧q.b02++(l.drop q.t35.toNat).flatten=w++l.flatten) (fun q=>((l.length:Int) - q.t35).toNat) ?_ N _ ⟨by simp,by simp,rfl,by simp⟩ (by simp; omega)
  rintro ⟨i,b0,b⟩ nx ⟨g0,g1,rfl,hq⟩ ih
  simp only at g0 g1 hq ih ⊢
  by_cases hi:i < l.length
  ·have hd:=cK (default:List Int) g0 hi
   rw [hd,List.flatten_cons] at hq
   have hlen:=congrArg List.length hq
   simp only [List.length_append] at hlen
   simp only [decide_eq_true hi,bV g0 hi,cond_true]
   rw [bY (by omega),bH (by omega) (by omega)]
   exact ih ⟨i+1,true,b++aA l i default⟩ ⟨by simp; omega,by simp; omega,rfl,by simp only [List.append_assoc]; exact hq⟩ (by simp; omega)
  ·have:decide (i < (l.length:Int))=false:=by simpa using hi
   simp only [this,cond_false]
   rw [List.drop_eq_nil_of_le (by omega)] at hq
   rw [← hq]; simp
 refine cH (fun q:uO=>0≤q.t19∧q.t19≤(l.length:Int)∧0≤q.n∧q.n≤1048576∧q.n+(l.drop q.t19.toNat).flatten.length=w.length+l.flatten.length) (fun q=>((l.length:Int) - q.t19).toNat) ?_ N _ ⟨by simp,by simp,by simp,by simp; omega,by simp⟩ (by simp; omega)
 rintro ⟨n,i⟩ nx ⟨g0,g1,g2,g3,hq⟩ ih
 simp only at g0 g1 g2 g3 hq ih ⊢
 by_cases hi:i < l.length
 ·have hd:=cK (default:List Int) g0 hi
  have hmi:=hm _ (fJ (default:List Int) g0 hi)
  rw [hd,List.flatten_cons,List.length_append] at hq
  simp only [decide_eq_true hi,bV g0 hi,cond_true,Bool.cond_decide]
  rw [bH (n:=1048576 - n) (by omega) (by omega)]
  split
  ·rename_i hlong
   rw [nB,if_neg (by omega)]
  ·rename_i hfit
   rw [bH (by omega) (by omega),bH (by omega) (by omega)]
   exact ih ⟨_,i+1⟩ ⟨by simp; omega,by simp; omega,by simp; omega,by simp; omega,by simp only; omega⟩ (by simp; omega)
 ·have:decide (i < (l.length:Int))=false:=by simpa using hi
  simp only [this,cond_false]
  rw [List.drop_eq_nil_of_le (by omega)] at hq
  simp only [List.flatten_nil,List.length_nil] at hq
  rw [nB,if_pos (by omega)]
  exact second (by omega)
theorem aOF {N:Nat} (hN:11≤N) {n:Int} (hn:R64 n) {w:List Int} (hw:w.length≤1048576):yQ N n true w=some (nB w (bI (zig n))):=by
 have:=gZ (jF hn)
 unfold yQ
 rw [aKt hN hn,Option.bind_some,aOE (by simp; omega) (by simp) hw (by intro m hm; simp at hm; subst hm; omega)]
 simp
theorem F20_eq {N:Nat} {w:List Int} (hw:w.length≤1048576):aBS N true w=some (w,true,w):=by
 unfold aBS yO
 simp only [Option.bind_some,Bool.not_true,cond_false]
 rw [aDF (by omega)]; rfl
def lZ (u:Nat):Int:=if u % 2=1 then -((u / 2:Nat):Int) - 1 else ((u / 2:Nat):Int)
def pv:Nat→Nat→List Int→Int×Int×Int
 | _,_,[]=>(0,0,10)
 | i,u,x :: r=>if i=9∧1 < x then (0,0,11) else if 128≤x then pv (i+1) (u+(x % 128).toNat * 128 ^ i) r else if x=0∧0 < i then (0,0,11) else (lZ (u+x.toNat * 128 ^ i),(i:Int)+1,0)
theorem aKu {k:Nat} (hk:k≤9):128 ^ k≤9223372036854775808:=by
 have:128 ^ k≤128 ^ 9:=Nat.pow_le_pow_right (by decide) hk
 exact Nat.le_trans this (by decide)
theorem aKv {a k:Nat} (ha:a < 128) (hk:k≤9) (h9:k=9→a≤1):a * 128 ^ k≤9223372036854775808:=by
 by_cases h:k=9
 ·subst h
  have:a * 128 ^ 9≤1 * 128 ^ 9:=Nat.mul_le_mul_right _ (h9 rfl)
  exact Nat.le_trans this (by decide)
 ·have h1:a * 128 ^ k≤128 * 128 ^ k:=Nat.mul_le_mul_right _ (by omega)
  have h2:128 * 128 ^ k=128 ^ (k+1):=by rw [Nat.pow_succ,Nat.mul_comm]
  exact Nat.le_trans (h2▸h1) (aKu (by omega))
theorem aXP {a:Int} {k:Nat} (h0:0≤a) (ha:a < 128) (hk:k≤9) (h9:k=9→a≤1):shl .u64 a (IntKind.i64.wrap (7 * (k:Int)))=((a.toNat * 128 ^ k:Nat):Int):=by
 rw [bH (by omega) (by omega)]
 simp only [shl,IntKind.bits]
 rw [show (min (7 * (k:Int)).toNat 64)=7 * k by omega,nA]
 have hp:=aKv (a:=a.toNat) (by omega) hk (fun h=>by have:=h9 h; omega)
 have e:a * 2 ^ (7 * k)=((a.toNat * 128 ^ k:Nat):Int):=by
  have e2:(128:Nat) ^ k=2 ^ (7 * k):=by rw [Nat.pow_mul]
  rw [e2]
  push_cast
  rw [Int.toNat_of_nonneg h0]
 rw [e]
 omega
theorem aXQ {u a k:Nat} (hu:u < 128 ^ k) (hk:k≤9) (ha:a * 128 ^ k≤9223372036854775808):bits .or .u64 (u:Int) ((a * 128 ^ k:Nat):Int)=((u+a * 128 ^ k:Nat):Int):=by
 have hp:=aKu hk
 rw [u64_or _ _ (by omega) (by omega) (by omega) (by omega)]
 have e2:(128:Nat) ^ k=2 ^ (7 * k):=by rw [Nat.pow_mul]
 have:=nat_join (7 * k) (a * 128 ^ k) u (by rw [e2]; exact Nat.mul_mod_left _ _) (by rw [← e2]; exact hu)
 rw [Int.toNat_natCast,Int.toNat_natCast,Nat.or_comm,this]
 omega
theorem aXR {c:Int} (h:bS c):bits .and .u8 c 127=c % 128:=by
 have h0:=h.1; have h1:=h.2
 rw [u8_and c 127 h0 (by omega) (by decide) (by decide),show (127:Int).toNat=127 from rfl,nat_mask7]
 omega
theorem aXS {v:Nat} (h:v < 18446744073709551616):bits .and .u64 (v:Int) 1=((v % 2:Nat):Int):=by
 rw [u64_and _ 1 (by omega) (by omega) (by decide) (by decide),show (1:Int).toNat=1 from rfl,Int.toNat_natCast,nat_mask1]
theorem aXT (v:Nat):shr .u64 (v:Int) 1=((v / 2:Nat):Int):=by
 have:=shr64 (a:=(v:Int)) (k:=1) (by decide)
 rw [show ((1:Nat):Int)=1 from rfl] at this
 rw [this]; omega
theorem aKw {u a k:Nat} (hu:u < 128 ^ k) (ha:a < 128) (hk:k≤9) (h9:k=9→a≤1):u+a * 128 ^ k < 18446744073709551616:=by
 have:=aKv ha hk h9
 have:=aKu hk
 omega
theorem aDG {u a k:Nat} (hu:u < 128 ^ k) (ha:a < 128):u+a * 128 ^ k < 128 ^ (k+1):=by
 have:a * 128 ^ k≤127 * 128 ^ k:=Nat.mul_le_mul_right _ (by omega)
 rw [Nat.pow_succ]; omega
theorem aKx {N:Nat} (hN:11≤N) {b:List Int} (hl:b.length≤9223372036854775807) (hb:∀ x∈b,bS x):vD N b=some (pv 0 0 b):=by
 unfold vD
 refine cH (fun q:vC=>∃ k u:Nat,q.t8=k∧q.u=u∧k≤9∧u < 128 ^ k∧pv k u (b.drop k)=pv 0 0 b) (fun q=>(9 - q.t8).toNat) ?_ N _ ⟨0,0,rfl,rfl,by omega,by simp,rfl⟩ (by simp; omega)
 rintro ⟨u',i'⟩ nx ⟨k,u,rfl,rfl,hk,hu,hq⟩ ih
 simp only at ih ⊢
 have hk10:decide ((k:Int) < 10)=true:=by simp; omega
 simp only [hk10,cond_true,Bool.cond_decide]
 split
 ·rename_i hend
  rw [List.drop_eq_nil_of_le (by omega)] at hq
  rw [← hq,pv]
 ·rename_i hlt
  have hlt':(k:Int) < b.length:=by omega
  have hd:=cK (default:Int) (Int.natCast_nonneg k) hlt'
  have hmem:=hb _ (fJ (default:Int) (Int.natCast_nonneg k) hlt')
  rw [Int.toNat_natCast] at hd
  rw [hd] at hq
  generalize aA b (k:Int) default=c at hq hmem hd ⊢
  have h0:=hmem.1; have h1:=hmem.2
  rw [bV (Int.natCast_nonneg k) hlt',aXR hmem]
  simp only [cond_true]
  rw [pv] at hq
  by_cases hform:(((k:Int)==9)&&decide (1 < c) || (c==0)&&decide (0 < (k:Int)))=true
  ·rw [hform]
   simp only [cond_true]
   rw [← hq]
   simp only [Bool.or_eq_true,Bool.and_eq_true,beq_iff_eq,decide_eq_true_eq] at hform
   rcases hform with ⟨a1,a2⟩ | ⟨a1,a2⟩
   ·rw [if_pos ⟨by omega,a2⟩]
   ·by_cases h9:k=9∧1 < c
    ·rw [if_pos h9]
    ·rw [if_neg h9,if_neg (by omega),if_pos ⟨a1,by omega⟩]
  ·have hf:(((k:Int)==9)&&decide (1 < c) || (c==0)&&decide (0 < (k:Int)))=false:=by simpa using hform
   rw [hf]
   simp only [cond_false]
   have n1:¬ (k=9∧1 < c):=fun h=>hform (by simp [h.1,h.2])
   have n2:¬ (c=0∧0 < k):=fun h=>hform (by simp [h.1]; omega)
   rw [if_neg n1] at hq
   have h7:0≤IntKind.i64.wrap (7 * (k:Int)):=by rw [bH (by omega) (by omega)]; omega
   rw [if_pos h7]
   have e0:IntKind.u64.wrap (c % 128)=c % 128:=by rw [nA]; omega
   have hs:=aXP (a:=c % 128) (k:=k) (by omega) (by omega) hk (fun h=>by
    have:¬ 1 < c:=fun h'=>n1 ⟨h,h'⟩
    omega)
   have h9':k=9→(c % 128).toNat≤1:=fun h=>by
    have:¬ 1 < c:=fun h'=>n1 ⟨h,h'⟩
    omega
   have ho:=aXQ hu hk (aKv (a:=(c % 128).toNat) (by omega) hk h9')
   have hV:=aKw hu (a:=(c % 128).toNat) (by omega) hk h9'
   rw [e0,hs,ho]
   generalize hVe:u+(c % 128).toNat * 128 ^ k=v at hV hq ⊢
   split
   ·rename_i hc
    rw [if_neg (by omega),if_neg n2] at hq
    have ec:c.toNat=(c % 128).toNat:=by omega
    rw [ec,hVe] at hq
    rw [← hq,aXS hV,aXT]
    have ek:IntKind.i64.wrap ((k:Int)+1)=(k:Int)+1:=bH (by omega) (by omega)
    rw [ek]
    unfold lZ
    by_cases hodd:v % 2=1
    ·rw [hodd,if_pos rfl]
     rw [aOA (by omega) (by omega)]
     have:IntKind.i64.wrap (18446744073709551615 - ((v / 2:Nat):Int))=-((v / 2:Nat):Int) - 1:=by
      rw [IntKind.wrap]
      simp [IntKind.bits,IntKind.signed]
      split<;>omega
     rw [this]; rfl
    ·have he:v % 2=0:=by omega
     rw [he,if_neg (by omega)]
     simp only [show (((0:Nat):Int)==1)=false from rfl,cond_false]
     rw [bH (by omega) (by omega)]
   ·rename_i hc
    have ekk:((k:Int)+1).toNat=k+1:=by omega
    rw [if_pos (by omega),ekk] at hq
    rw [bH (n:=(k:Int)+1) (by omega) (by omega)]
    have hk9:k≠9:=fun h=>n1 ⟨h,by omega⟩
    exact ih ⟨(v:Int),(k:Int)+1⟩ ⟨k+1,v,by simp,rfl,by omega,hVe▸aDG hu (by omega),hq⟩ (by simp; omega)
theorem aOG:∀ (m i u v:Nat) (rest:List Int),v < 128 ^ (m+1)→i+m≤9→u < 128 ^ i→u+v * 128 ^ i < 18446744073709551616→(0 < i→0 < v) →
  pv i u (bI v++rest)=(lZ (u+v * 128 ^ i),(i:Int)+(bI v).length,0)
 | m, i, u, v, rest, hv, hm, hu, hs, hp => by
  have key:i=9→v≤1:=fun h=>by
   subst h
   have:v * 128 ^ 9 < 2 * 128 ^ 9:=by
    have:(2:Nat) * 128 ^ 9=18446744073709551616:=by decide
    omega
   have:=Nat.lt_of_mul_lt_mul_right this
   omega
  by_cases h:v < 128
  ·rw [tL h,List.singleton_append,pv]
   rw [if_neg (fun h'=>by have:=key h'.1; omega),if_neg (by omega),if_neg (fun h'=>by have:=hp h'.2; omega)]
   simp
  ·rw [qQ (by omega), List.cons_append, pv]
   have h9:i≠9:=fun h'=>by have:=key h'; omega
   cases m with
   | zero=>simp at hv; omega
   | succ m =>
    rw [if_neg (fun h'=>h9 h'.1),if_pos (by omega)]
    have e1:((((v % 128+128:Nat):Int)) % 128).toNat=v % 128:=by omega
    have e2:v % 128 * 128 ^ i+v / 128 * 128 ^ (i+1)=v * 128 ^ i:=by
     rw [Nat.pow_succ,Nat.mul_comm (128 ^ i) 128,← Nat.mul_assoc,← Nat.add_mul]
     congr 1; omega
    rw [e1,aOG m (i+1) _ (v / 128) rest (by rw [Nat.div_lt_iff_lt_mul (by decide)]; rw [← Nat.pow_succ]; exact hv) (by omega) (aDG hu (by omega)) (by omega) (fun _=>by omega)]
    rw [show u+v % 128 * 128 ^ i+v / 128 * 128 ^ (i+1)=u+v * 128 ^ i by omega]
    simp only [List.length_cons]
    congr 2
    push_cast; omega
theorem aXU (n:Int):lZ (zig n)=n:=by
 unfold lZ zig; split<;>split<;>omega
theorem aOH {n:Int} (hn:R64 n) (rest:List Int):pv 0 0 (bI (zig n)++rest)=(n,((bI (zig n)).length:Int),0):=by
 have hz:=jF hn
 rw [aOG 9 0 0 (zig n) rest (Nat.lt_trans hz (by decide)) (by omega) (by simp) (by simpa using hz) (by simp)]
 simp [aXU]
theorem aOI {v:Nat} (h:v < 18446744073709551616):R64 (lZ v):=by
 unfold lZ; split<;>exact ⟨by omega,by omega⟩
theorem aOJ:∀ (r:List Int) (i u:Nat),(∀ x∈r,bS x)→i≤9→u < 128 ^ i →
  (∃ (n:Int) (k:Nat),pv i u r=(n,(k:Int),0)∧i < k∧k≤i+r.length∧R64 n)∨pv i u r=(0,0,10)∨pv i u r=(0,0,11)
 | [],i,u,_,_,_=>.inr (.inl (by rw [pv]))
 | x :: r, i, u, hb, hi, hu => by
  have hx:=hb x (by simp)
  have h0:=hx.1; have h1:=hx.2
  rw [pv]
  by_cases h9:i=9∧1 < x
  ·rw [if_pos h9]; exact .inr (.inr rfl)
  ·rw [if_neg h9]
   by_cases hc:128≤x
   ·rw [if_pos hc]
    have hi9:i≠9:=fun h=>h9 ⟨h,by omega⟩
    rcases aOJ r (i+1) _ (fun y hy=>hb y (by simp [hy])) (by omega) (aDG hu (a:=(x % 128).toNat) (by omega)) with ⟨n,k,e,a1,a2,a3⟩ | e | e
    ·exact .inl ⟨n,k,e,by omega,by simp only [List.length_cons]; omega,a3⟩
    ·exact .inr (.inl e)
    ·exact .inr (.inr e)
   ·rw [if_neg hc]
    by_cases hz:x=0∧0 < i
    ·rw [if_pos hz]; exact .inr (.inr rfl)
    ·rw [if_neg hz]
     refine .inl ⟨lZ (u+x.toNat * 128 ^ i),i+1,by simp,by omega,by simp only [List.length_cons]; omega,aOI (aKw (a:=x.toNat) hu (by omega) hi fun h=>?_)⟩
     have:¬ 1 < x:=fun h'=>h9 ⟨h,h'⟩
     omega
theorem pv_k {b:List Int} (hb:∀ x∈b,bS x):0≤(pv 0 0 b).2.1∧(pv 0 0 b).2.1≤(b.length:Int)∧R64 (pv 0 0 b).1∧((pv 0 0 b).2.2≠0→(pv 0 0 b).1=0∧(pv 0 0 b).2.1=0):=by
 rcases aOJ b 0 0 hb (by omega) (by simp) with ⟨n,k,e,a1,a2,a3⟩ | e | e
 ·rw [e]; exact ⟨by simp,by simp; omega,a3,fun h=>absurd rfl h⟩
 ·rw [e]; exact ⟨by simp,by simp,⟨by decide,by decide⟩,fun _=>⟨rfl,rfl⟩⟩
 ·rw [e]; exact ⟨by simp,by simp,⟨by decide,by decide⟩,fun _=>⟨rfl,rfl⟩⟩
def rI (b:List Int):Int×Int×List Int:=((pv 0 0 b).1,(pv 0 0 b).2.2,b.drop (pv 0 0 b).2.1.toNat)
def rB (b:List Int):List Int×Int×List Int :=
 if (pv 0 0 b).2.2≠0 then ([],(pv 0 0 b).2.2,b) else if (pv 0 0 b).1 < 0 then ([],11,b) else if (b.length:Int) - (pv 0 0 b).2.1 < (pv 0 0 b).1 then ([],10,b)
 else ((b.drop (pv 0 0 b).2.1.toNat).take (pv 0 0 b).1.toNat,0,b.drop ((pv 0 0 b).2.1+(pv 0 0 b).1).toNat)
theorem aOK {b:List Int} (k:Int):cut b k (b.length:Int)=b.drop k.toNat:=by
 simp only [cut]; rw [List.take_of_length_le (by simp)]
section
variable {N:Nat} {b:List Int}
theorem F22_eq (hN:11≤N) (hl:b.length≤70368744177664) (hb:∀ x∈b,bS x):aB5 N ⟨true,b⟩=some ((rI b).1,(rI b).2.1,⟨true,(rI b).2.2⟩):=by
 obtain ⟨a1,a2,_,_⟩:=pv_k hb
 unfold aB5 rV
 simp only [Option.bind_some,Bool.not_true,cond_false,aKx hN (by omega) hb]
 rw [wW a1 a2 (Int.le_refl _),aOK]; rfl
theorem aOL (hN:11≤N) (hl:b.length≤70368744177664) (hb:∀ x∈b,bS x):zB N ⟨true,b⟩=some ((rB b).1,(rB b).2.1,⟨true,(rB b).2.2⟩):=by
 obtain ⟨a1,a2,a3,_⟩:=pv_k hb
 have a4:=a3.1; have a5:=a3.2
 unfold zB rV rB
 simp only [Option.bind_some,Bool.not_true,cond_false,aKx hN (show b.length≤9223372036854775807 by omega) hb]
 generalize hp:pv 0 0 b=p at a1 a2 a4 a5 ⊢
 by_cases he:p.2.2=0
 ·rw [if_neg (by simpa using he)]
  have:(!(p.2.2==0))=false:=by simp [he]
  rw [this]
  simp only [cond_false]
  by_cases hn:p.1 < 0
  ·rw [if_pos hn]; simp only [decide_eq_true hn,cond_true]
  ·rw [if_neg hn]
   have hd:decide (p.1 < 0)=false:=by simpa using hn
   simp only [hd,cond_false]
   rw [bH (n:=(b.length:Int) - p.2.1) (by omega) (by omega)]
   by_cases hlong:(b.length:Int) - p.2.1 < p.1
   ·rw [if_pos hlong]; simp only [decide_eq_true hlong,cond_true]
   ·rw [if_neg hlong]
    have hd:decide ((b.length:Int) - p.2.1 < p.1)=false:=by simpa using hlong
    simp only [hd,cond_false]
    rw [bH (n:=p.2.1+p.1) (by omega) (by omega)]
    rw [wW a1 (by omega) (by omega),wW (by omega) (by omega) (Int.le_refl _),aOK]
    have ec:cut b p.2.1 (p.2.1+p.1)=(b.drop p.2.1.toNat).take p.1.toNat:=by
     simp only [cut]; congr 1; omega
    rw [ec,aDF (by simp; omega)]; rfl
 ·rw [if_pos he]
  have:(!(p.2.2==0))=true:=by simpa using he
  rw [this]; rfl
end
theorem aXV (b:List Int):(rI b).2.2 <:+ b:=List.drop_suffix _ _
theorem aOM (b:List Int):(rB b).2.2 <:+ b:=by
 unfold rB; (repeat' split)<;>first | exact List.suffix_rfl | exact List.drop_suffix _ _
theorem aXW {c b:List Int} (h:c <:+ b) (hl:b.length≤70368744177664) (hb:∀ x∈b,bS x):c.length≤70368744177664∧∀ x∈c,bS x :=
 ⟨Nat.le_trans h.length_le hl,fun x hx=>hb x (h.subset hx)⟩
theorem aON {l:List Int} (h:∀ x∈l,bS x):jU (jD l)=l:=by
 induction l with
 | nil=>rfl
 | cons b l ih =>
  have hb:=h b (by simp)
  have:=hb.1; have:=hb.2
  have e:((UInt8.ofNat b.toNat).toNat:Int)=b:=by
   rw [UInt8.toNat_ofNat']
   omega
  have ih':=ih fun x hx=>h x (by simp [hx])
  simp only [jU,jD,List.map_cons,List.map_map] at ih' ⊢
  rw [ih',e]
theorem tM {n:Nat} (h:n≤1048576):R64 (n:Int):=⟨by omega,by omega⟩
section
variable {N:Nat} {w:List Int}
theorem aOO (hN:11≤N) {b:List Int} (hb:b.length≤1048576) (hw:w.length≤1048576):yS N b true w=some (nB w (bI (zig (b.length:Int))++b)):=by
 have:=gZ (jF (tM hb))
 unfold yS
 rw [aKt hN (tM hb),Option.bind_some,aOE (by simp; omega) (by simp) hw (by intro m hm; simp at hm; rcases hm with rfl | rfl<;>omega)]
 simp
theorem aOP (hN:11≤N) {b:List Int} (hb:b.length≤1048576):pV N b=some (bI (zig (b.length:Int))++b):=by
 have:=gZ (jF (tM hb))
 unfold pV
 rw [aAH hN (tM hb),Option.bind_some,bY (by omega)]; rfl
end
theorem aXX {N:Nat} (hN:8 < N) {X:Type} (k:Int→Option X) {s:Int} (hs:R32 s):bE N (fun (s5:pK) next6 =>
   (bif (decide (s5.t25 < 8)) then
   (bif ((bits .and .u32 s5.sum 1)==1) then
   (next6 ⟨(bits .xor .u32 (shr .u32 s5.sum 1) 3988292384),(IntKind.i64.wrap (s5.t25+1))⟩)
   else
   (next6 ⟨(shr .u32 s5.sum 1),(IntKind.i64.wrap (s5.t25+1))⟩))
   else (k s5.sum))) ⟨s,0⟩=k (iO 8 s):=by
 refine cH (fun q:pK=>0≤q.t25∧q.t25≤8∧R32 q.sum∧iO (8 - q.t25).toNat q.sum=iO 8 s) (fun q=>(8 - q.t25).toNat) ?_ N _ ⟨by simp,by simp,hs,rfl⟩ (by simp; omega)
 rintro ⟨q,i⟩ nx ⟨h0,h8,hr,hq⟩ ih
 simp only at h0 h8 hr hq ih ⊢
 by_cases hi:i < 8
 ·simp only [decide_eq_true hi,cond_true,aXK hr,aXL]
  rw [bH (by omega) (by omega)]
  have hstep:iO (8 - (i+1)).toNat (kV q)=iO 8 s:=by
   rw [← hq]
   have:(8 - i).toNat=(8 - (i+1)).toNat+1:=by omega
   rw [this]; rfl
  have hres:=ih ⟨kV q,i+1⟩ ⟨by simp; omega,by simp; omega,aAG hr,hstep⟩ (by simp; omega)
  rw [← hres]
  unfold kV
  by_cases h1:q % 2=1
  ·have:(q % 2==1)=true:=by simpa using h1
   rw [this,if_pos h1]; rfl
  ·have:(q % 2==1)=false:=by simpa using h1
   rw [this,if_neg h1]; rfl
 ·have:decide (i < 8)=false:=by simpa using hi
  simp only [this,cond_false]
  have:(8 - i).toNat=0:=by omega
  rw [this] at hq
  rw [← hq]; rfl
theorem aXY {N:Nat} (hN:8 < N) {X:Type} (k:Int→Option X) {s:Int} (hs:R32 s):bE N (fun (s3:sK) next4 =>
   (bif (decide (s3.k < 8)) then
   (bif ((Int.tmod s3.sum 2)==1) then
   (next4 ⟨(bits .xor .u32 (IntKind.u32.wrap (Int.tdiv s3.sum 2)) 3988292384),(IntKind.i64.wrap (s3.k+1))⟩)
   else
   (next4 ⟨(IntKind.u32.wrap (Int.tdiv s3.sum 2)),(IntKind.i64.wrap (s3.k+1))⟩))
   else (k s3.sum))) ⟨s,0⟩=k (iO 8 s):=by
 refine cH (fun q:sK=>0≤q.k∧q.k≤8∧R32 q.sum∧iO (8 - q.k).toNat q.sum=iO 8 s) (fun q=>(8 - q.k).toNat) ?_ N _ ⟨by simp,by simp,hs,rfl⟩ (by simp; omega)
 rintro ⟨q,i⟩ nx ⟨h0,h8,hr,hq⟩ ih
 simp only at h0 h8 hr hq ih ⊢
 have hr1:=hr.1; have hr2:=hr.2
 by_cases hi:i < 8
 ·simp only [decide_eq_true hi,cond_true,Int.tmod_eq_emod_of_nonneg hr1,Int.tdiv_eq_ediv_of_nonneg hr1]
  rw [bH (by omega) (by omega),aKj (by omega) (by omega)]
  have hstep:iO (8 - (i+1)).toNat (kV q)=iO 8 s:=by
   rw [← hq]
   have:(8 - i).toNat=(8 - (i+1)).toNat+1:=by omega
   rw [this]; rfl
  have hres:=ih ⟨kV q,i+1⟩ ⟨by simp; omega,by simp; omega,aAG hr,hstep⟩ (by simp; omega)
  rw [← hres]
  unfold kV
  by_cases h1:q % 2=1
  ·have:(q % 2==1)=true:=by simpa using h1
   rw [this,if_pos h1]; rfl
  ·have:(q % 2==1)=false:=by simpa using h1
   rw [this,if_neg h1]; rfl
 ·have:decide (i < 8)=false:=by simpa using hi
  simp only [this,cond_false]
  have:(8 - i).toNat=0:=by omega
  rw [this] at hq
  rw [← hq]; rfl
theorem aXZ {N:Nat} (hN:8 < N) {X:Type} (k:Int→Option X) {l:List Int} (hl:l.length < N) (hmax:l.length≤9223372036854775807) (hb:∀ b∈l,bS b) {s:Int} (hs:R32 s) :
  bE N (fun (s3:rT) next4 =>
   (bif (decide (s3.t17 < ((l).length:Int))) then
   (bif (ibB s3.t17 ((l).length:Int)) then
   (bE N (fun (s5:pK) next6 =>
   (bif (decide (s5.t25 < 8)) then
   (bif ((bits .and .u32 s5.sum 1)==1) then
   (next6 ⟨(bits .xor .u32 (shr .u32 s5.sum 1) 3988292384),(IntKind.i64.wrap (s5.t25+1))⟩)
   else
   (next6 ⟨(shr .u32 s5.sum 1),(IntKind.i64.wrap (s5.t25+1))⟩))
   else
   (next4 ⟨s5.sum,(IntKind.i64.wrap (s3.t17+1))⟩))) ⟨(bits .xor .u32 s3.sum (IntKind.u32.wrap (aA l s3.t17 default))),0⟩)
   else none)
   else (k s3.sum))) ⟨s,0⟩=k (l.foldl dQ s):=by
 refine cH (fun q:rT=>0≤q.t17∧q.t17≤(l.length:Int)∧R32 q.sum∧(l.drop q.t17.toNat).foldl dQ q.sum=l.foldl dQ s) (fun q=>((l.length:Int) - q.t17).toNat) ?_ N _ ⟨by simp,by simp,hs,by simp⟩ (by simp; omega)
 rintro ⟨q,i⟩ nx ⟨h0,h8,hr,hq⟩ ih
 simp only at h0 h8 hr hq ih ⊢
 by_cases hi:i < l.length
 ·have hbi:=hb _ (fJ (default:Int) h0 hi)
  simp only [decide_eq_true hi,cond_true,bV h0 hi]
  rw [aKj hbi.1 (by have:=hbi.2; omega)]
  rw [aXX hN (fun t=>nx ⟨t,IntKind.i64.wrap (i+1)⟩) (oJ hr ⟨hbi.1,by have:=hbi.2; omega⟩)]
  rw [bH (by omega) (by omega)]
  refine ih ⟨dQ q (aA l i default),i+1⟩ ⟨by simp; omega,by simp; omega,oK hr hbi,?_⟩ (by simp; omega)
  rw [← hq,cK (default:Int) h0 hi,List.foldl_cons]
 ·have:decide (i < (l.length:Int))=false:=by simpa using hi
  simp only [this,cond_false]
  rw [List.drop_eq_nil_of_le (by omega)] at hq
  rw [← hq]; rfl
theorem F15_eq {N:Nat} {l:List Int} (hN:l.length+9≤N) (hmax:l.length≤9223372036854775807) (hb:∀ b∈l,bS b):aCE N l=some (cQ l):=by
 unfold aCE
 refine cH (fun q:vV=>0≤q.i∧q.i≤(l.length:Int)∧R32 q.sum∧(l.drop q.i.toNat).foldl dQ q.sum=l.foldl dQ 4294967295) (fun q=>((l.length:Int) - q.i).toNat) ?_ N _ ⟨by simp,by simp,⟨by decide,by decide⟩,by simp⟩ (by simp; omega)
 rintro ⟨q,i⟩ nx ⟨h0,h8,hr,hq⟩ ih
 simp only at h0 h8 hr hq ih ⊢
 by_cases hi:i < l.length
 ·have hbi:=hb _ (fJ (default:Int) h0 hi)
  simp only [decide_eq_true hi,cond_true,bV h0 hi]
  rw [aKj hbi.1 (by have:=hbi.2; omega)]
  rw [aXY (by omega) (fun t=>nx ⟨t,IntKind.i64.wrap (i+1)⟩) (oJ hr ⟨hbi.1,by have:=hbi.2; omega⟩)]
  rw [bH (by omega) (by omega)]
  refine ih ⟨dQ q (aA l i default),i+1⟩ ⟨by simp; omega,by simp; omega,oK hr hbi,?_⟩ (by simp; omega)
  rw [← hq,cK (default:Int) h0 hi,List.foldl_cons]
 ·have:decide (i < (l.length:Int))=false:=by simpa using hi
  simp only [this,cond_false]
  rw [List.drop_eq_nil_of_le (by omega)] at hq
  rw [cQ,← hq]; rfl
theorem aOQ {N:Nat} {l:List (List Int)} (hN:l.length+9≤N) (hmax:l.length≤9223372036854775807) (hb:∀ m∈l,m.length+9≤N∧m.length≤9223372036854775807∧∀ b∈m,bS b):yT N l=some (cQ l.flatten):=by
 unfold yT
 refine cH (fun q:uX=>0≤q.t11∧q.t11≤(l.length:Int)∧R32 q.sum∧(l.drop q.t11.toNat).flatten.foldl dQ q.sum=l.flatten.foldl dQ 4294967295) (fun q=>((l.length:Int) - q.t11).toNat) ?_ N _ ⟨by simp,by simp,⟨by decide,by decide⟩,by simp⟩ (by simp; omega)
 rintro ⟨q,i⟩ nx ⟨h0,h8,hr,hq⟩ ih
 simp only at h0 h8 hr hq ih ⊢
 by_cases hi:i < l.length
 ·obtain ⟨m1,m2,m3⟩:=hb _ (fJ (default:List Int) h0 hi)
  simp only [decide_eq_true hi,cond_true,bV h0 hi]
  rw [aXZ (by omega) (fun t=>nx ⟨t,IntKind.i64.wrap (i+1)⟩) (by omega) m2 m3 hr]
  rw [bH (by omega) (by omega)]
  refine ih ⟨_,i+1⟩ ⟨by simp; omega,by simp; omega,wZ _ hr m3,?_⟩ (by simp; omega)
  rw [← hq,cK (default:List Int) h0 hi,List.flatten_cons,List.foldl_append]
 ·have:decide (i < (l.length:Int))=false:=by simpa using hi
  simp only [this,cond_false]
  rw [List.drop_eq_nil_of_le (by omega)] at hq
  rw [cQ,← hq]; rfl
theorem aOR:∀ (r:List Int) (i u:Nat) (n k:Int),(∀ x∈r,bS x)→i≤9→u < 128 ^ i→pv i u r=(n,k,0) →
  ∃ (v:Nat) (rest:List Int),r=bI v++rest∧n=lZ (u+v * 128 ^ i)∧k=(i:Int)+(bI v).length∧u+v * 128 ^ i < 18446744073709551616∧(0 < i→0 < v)
 | [],i,u,n,k,_,_,_,h=>by rw [pv] at h; cases h
 | x :: r, i, u, n, k, hb, hi, hu, h => by
  have hx:=hb x (by simp)
  have h0:=hx.1; have h1:=hx.2
  rw [pv] at h
  by_cases h9:i=9∧1 < x
  ·rw [if_pos h9] at h; cases h
  ·rw [if_neg h9] at h
   by_cases hc:128≤x
   ·rw [if_pos hc] at h
    have hi9:i≠9:=fun h=>h9 ⟨h,by omega⟩
    obtain ⟨v,rest,e1,e2,e3,e4,e5⟩:=aOR r (i+1) _ n k (fun y hy=>hb y (by simp [hy])) (by omega) (aDG hu (a:=(x % 128).toNat) (by omega)) h
    have hv:=e5 (by omega)
    have ed:((x % 128).toNat+128 * v) / 128=v:=by omega
    have em:((x % 128).toNat+128 * v) % 128=(x % 128).toNat:=by omega
    have es:u+((x % 128).toNat+128 * v) * 128 ^ i=u+(x % 128).toNat * 128 ^ i+v * 128 ^ (i+1):=by
     rw [Nat.add_mul,Nat.pow_succ,Nat.mul_comm (128 ^ i) 128,← Nat.mul_assoc,Nat.mul_comm v 128]; omega
    have ev:bI ((x % 128).toNat+128 * v)=x :: bI v:=by
     rw [qQ (by omega),ed,em]
     congr 1; omega
    refine ⟨(x % 128).toNat+128 * v,rest,by rw [ev,e1]; rfl,by rw [es]; exact e2,?_,by rw [es]; exact e4,fun _=>by omega⟩
    rw [ev,List.length_cons,e3]; push_cast; omega
   ·rw [if_neg hc] at h
    by_cases hz:x=0∧0 < i
    ·rw [if_pos hz] at h; cases h
    ·rw [if_neg hz] at h
     cases h
     have hs:=aKw hu (a:=x.toNat) (by omega) hi (fun h=>by
      have:¬ 1 < x:=fun h'=>h9 ⟨h,h'⟩
      omega)
     have ev:bI x.toNat=[x]:=by rw [tL (by omega)]; congr 1; omega
     refine ⟨x.toNat,r,by rw [ev]; rfl,rfl,by rw [ev]; simp,hs,fun hi0=>?_⟩
     have:¬ x=0:=fun h'=>hz ⟨h',hi0⟩
     omega
theorem aX0 (v:Nat):zig (lZ v)=v:=by unfold zig lZ; split<;>split<;>omega
theorem aOS {c:List Int} (hb:∀ x∈c,bS x) (h:(pv 0 0 c).2.2=0):∃ rest,c=bI (zig (pv 0 0 c).1)++rest∧(pv 0 0 c).2.1=((bI (zig (pv 0 0 c).1)).length:Int)∧R64 (pv 0 0 c).1:=by
 obtain ⟨v,rest,e1,e2,e3,e4,_⟩:=aOR c 0 0 (pv 0 0 c).1 (pv 0 0 c).2.1 hb (by omega) (by simp) (by rw [← h])
 simp only [Nat.pow_zero,Nat.mul_one,Nat.zero_add] at e2 e4
 have ez:zig (pv 0 0 c).1=v:=by rw [e2,aX0]
 refine ⟨rest,by rw [ez]; exact e1,by rw [ez,e3]; simp,?_⟩
 rw [e2]; exact aOI e4
section
variable {c:List Int} (hb:∀ x∈c,bS x)
theorem rI_one (hb:∀ x∈c,bS x) (h:(rI c).2.1=0):c=bI (zig (rI c).1)++(rI c).2.2∧R64 (rI c).1:=by
 obtain ⟨rest,e1,e2,e3⟩:=aOS hb h
 refine ⟨?_,e3⟩
 unfold rI
 simp only [e2,Int.toNat_natCast]
 conv=>lhs; rw [e1]
 congr 1
 conv=>rhs; rw [e1]
 rw [show (pv 0 0 (bI (zig (pv 0 0 c).1)++rest)).1=(pv 0 0 c).1 by rw [← e1]]
 simp
theorem rB_one (hb:∀ x∈c,bS x) (h:(rB c).2.1=0):c=bI (zig ((rB c).1.length:Int))++(rB c).1++(rB c).2.2∧(rB c).1.length≤c.length:=by
 unfold rB at h ⊢
 by_cases h0:(pv 0 0 c).2.2=0
 ·rw [if_neg (by simpa using h0)] at h ⊢
  by_cases h1:(pv 0 0 c).1 < 0
  ·rw [if_pos h1] at h; cases h
  ·rw [if_neg h1] at h ⊢
   by_cases h2:(c.length:Int) - (pv 0 0 c).2.1 < (pv 0 0 c).1
   ·rw [if_pos h2] at h; cases h
   ·rw [if_neg h2]
    obtain ⟨a1,a2,_,_⟩:=pv_k hb
    have hI:=(rI_one hb (show (rI c).2.1=0 from h0)).1
    unfold rI at hI
    simp only at hI ⊢
    have hl:((c.drop (pv 0 0 c).2.1.toNat).take (pv 0 0 c).1.toNat).length=(pv 0 0 c).1.toNat:=by simp only [List.length_take,List.length_drop]; omega
    have hz:(((c.drop (pv 0 0 c).2.1.toNat).take (pv 0 0 c).1.toNat).length:Int)=(pv 0 0 c).1:=by omega
    rw [hz,List.append_assoc]
    refine ⟨?_,by omega⟩
    have:((pv 0 0 c).2.1+(pv 0 0 c).1).toNat=(pv 0 0 c).2.1.toNat+(pv 0 0 c).1.toNat:=by omega
    rw [this,← List.drop_drop,List.take_append_drop]
    exact hI
 ·rw [if_pos h0] at h; exact absurd h h0
end
def dD (s:Int):List Int:=[IntKind.u8.wrap s,IntKind.u8.wrap (shr .u32 s 8),IntKind.u8.wrap (shr .u32 s 16),IntKind.u8.wrap (shr .u32 s 24)]
theorem jW (s:Int):(dD s).length=4:=rfl
theorem aX1 (s:Int):∀ b∈dD s,bS b:=by
 intro b hb
 simp only [dD,List.mem_cons,List.mem_nil_iff,or_false] at hb
 rcases hb with rfl | rfl | rfl | rfl<;>exact aOm _
def aW (b:List Int):List Int:=bI (zig (b.length:Int))++b++dD (cQ b)
theorem aX2 {N:Nat} {l:List (List Int)} (hN:l.length < N) (hl:l.length≤1000000) (hf:l.flatten.length≤70368744177664):∃ r,aBW N l=some r∧(r.1≤r.2.length∧r.2.take r.1=l.flatten):=by
 unfold aBW
 refine wV (fun q:uY=>0≤q.t11∧q.t11≤(l.length:Int)∧0≤q.size∧q.size+(l.drop q.t11.toNat).flatten.length=l.flatten.length) (fun q=>((l.length:Int) - q.t11).toNat) _ ?_ N _ ⟨by simp,by simp,by simp,by simp⟩ (by simp; omega)
 rintro ⟨size,i⟩ nx ⟨g0,g1,g2,hq⟩ ih
 simp only at g0 g1 g2 hq ih ⊢
 by_cases hi:i < l.length
 ·have hd:=cK (default:List Int) g0 hi
  rw [hd,List.flatten_cons,List.length_append] at hq
  simp only [decide_eq_true hi,bV g0 hi,cond_true]
  rw [bH (n:=size+_) (by omega) (by omega),bH (by omega) (by omega)]
  have:decide (size+((aA l i default).length:Int) < 0)=false:=by simp; omega
  simp only [this,cond_false]
  exact ih ⟨_,i+1⟩ ⟨by simp; omega,by simp; omega,by simp; omega,by simp only; omega⟩ (by simp; omega)
 ·have:decide (i < (l.length:Int))=false:=by simpa using hi
  simp only [this,cond_false]
  rw [List.drop_eq_nil_of_le (by omega)] at hq
  simp only [List.flatten_nil,List.length_nil] at hq
  have h53:∃ g,aBV N size=some (0,g):=by
   unfold aBV
   have h0:decide (size < 0)=false:=by simp; omega
   simp only [h0,cond_false,Int.sub_zero]
   rw [bH (by omega) (by omega)]
   by_cases hs:0 < size
   ·have:mkB size 1=true:=by simp [mkB]; omega
    simp only [decide_eq_true hs,cond_true,this]
    rw [wW (Int.le_refl _) (Int.le_refl _) (by omega)]
    exact ⟨_,rfl⟩
   ·have:decide (0 < size)=false:=by simpa using hs
    simp only [this,cond_false]
    exact ⟨_,rfl⟩
  obtain ⟨g,hg⟩:=h53
  rw [hg,Option.bind_some]
  refine wV (fun q:uZ=>0≤q.t27∧q.t27≤(l.length:Int)∧q.newslice≤q.g1.length∧q.g1.take q.newslice++(l.drop q.t27.toNat).flatten=l.flatten) (fun q=>((l.length:Int) - q.t27).toNat) _ ?_ N _ ⟨by simp,by simp,by simp,by simp⟩ (by simp; omega)
  rintro ⟨n,j,g1⟩ nx ⟨k0,k1,k2,hq⟩ ih
  simp only at k0 k1 k2 hq ih ⊢
  by_cases hj:j < l.length
  ·have hd:=cK (default:List Int) k0 hj
   rw [hd,List.flatten_cons] at hq
   have hlen:=congrArg List.length hq
   simp only [List.length_append,List.length_take,Nat.min_eq_left k2] at hlen
   simp only [decide_eq_true hj,bV k0 hj,cond_true]
   rw [bY (by omega),Nat.ble_eq_true_of_le k2,bH (by omega) (by omega)]
   simp only [Bool.and_self,cond_true]
   refine ih ⟨_,j+1,_⟩ ⟨by simp; omega,by simp; omega,by simp; omega,?_⟩ (by simp; omega)
   simp only
   rw [List.take_of_length_le (by simp; omega),List.append_assoc]
   exact hq
  ·have:decide (j < (l.length:Int))=false:=by simpa using hj
   simp only [this,cond_false]
   rw [List.drop_eq_nil_of_le (by omega)] at hq
   exact ⟨_,rfl,k2,by simpa using hq⟩
section
variable {N:Nat} {b:List Int}
theorem F38_eq (hN:b.length+20≤N) (hb:∀ x∈b,bS x):aCF N b=some (if 1048576 < b.length then ([],3) else (aW b,0)):=by
 unfold aCF
 by_cases h:1048576 < b.length
 ·have:decide (1048576 < (b.length:Int))=true:=by simp; omega
  rw [if_pos h,this]; rfl
 ·have hd:decide (1048576 < (b.length:Int))=false:=by simp; omega
  have hr:R64 (b.length:Int):=⟨by omega,by omega⟩
  have hv:=gZ (jF hr)
  rw [if_neg h,hd]
  simp only [cond_false]
  rw [F15_eq (by omega) (by omega) hb,Option.bind_some]
  have h36:pV N b=some (bI (zig (b.length:Int))++b):=by
   unfold pV
   rw [aAH (by omega) hr,Option.bind_some,bY (by omega)]; rfl
  rw [h36,Option.bind_some,bY (by simp; omega)]
  rfl
def unB (b:List Int):List Int×Int×Int :=
 if (pv 0 0 b).2.2≠0 then ([],0,(pv 0 0 b).2.2) else
 if (pv 0 0 b).1 < 0 then ([],0,11) else
 if 1048576 < (pv 0 0 b).1 then ([],0,3) else
 if (b.length:Int) - (pv 0 0 b).2.1 < (pv 0 0 b).1+4 then ([],0,10) else
 if ((b.drop ((pv 0 0 b).2.1+(pv 0 0 b).1).toNat).take 4)=dD (cQ ((b.drop (pv 0 0 b).2.1.toNat).take (pv 0 0 b).1.toNat)) then
  ((b.drop (pv 0 0 b).2.1.toNat).take (pv 0 0 b).1.toNat,(pv 0 0 b).2.1+(pv 0 0 b).1+4,0) else ([],0,12)
theorem F52_eq {c d:List Int} (hN:c.length < N) (hc:c.length≤9223372036854775000):aB2 N c d=some (decide (c=d)):=by
 unfold aB2
 by_cases hl:c.length=d.length
 ·have:(!((c.length:Int)==(d.length:Int)))=false:=by simp [hl]
  rw [this]
  simp only [cond_false]
  refine cH (fun q:vE=>0≤q.t13∧q.t13≤(c.length:Int)∧(c.drop q.t13.toNat=d.drop q.t13.toNat↔c=d)) (fun q=>((c.length:Int) - q.t13).toNat) ?_ N _ ⟨by simp,by simp,by simp⟩ (by simp; omega)
  rintro ⟨i⟩ nx ⟨g0,g1,hq⟩ ih
  simp only at g0 g1 hq ih ⊢
  by_cases hi:i < c.length
  ·have hi':i < d.length:=by omega
   rw [cK (default:Int) g0 hi,cK (default:Int) g0 hi'] at hq
   simp only [decide_eq_true hi,bV g0 hi,bV g0 hi',cond_true]
   by_cases he:aA c i default=aA d i default
   ·have:(!(aA c i default==aA d i default))=false:=by simp only [he,beq_self_eq_true,Bool.not_true]
    rw [this,bH (by omega) (by omega)]
    simp only [cond_false]
    exact ih ⟨i+1⟩ ⟨by simp; omega,by simp; omega,by simp only; rw [← hq,he]; simp⟩ (by simp; omega)
   ·have:(!(aA c i default==aA d i default))=true:=by rw [beq_eq_false_iff_ne.2 he]; rfl
    rw [this]
    simp only [cond_true]
    have:c≠d:=fun e=>he (by rw [e])
    simp [this]
  ·have:decide (i < (c.length:Int))=false:=by simpa using hi
   simp only [this,cond_false]
   rw [List.drop_eq_nil_of_le (by omega),List.drop_eq_nil_of_le (by omega)] at hq
   simp [hq.1 rfl]
 ·have:(!((c.length:Int)==(d.length:Int)))=true:=by simp; omega
  rw [this]
  have:c≠d:=fun e=>hl (by rw [e])
  simp [this]
theorem aOT {b:List Int} {i n:Int} (h0:0≤i) (hn:0≤n):cut b i (i+n)=(b.drop i.toNat).take n.toNat:=by
 simp only [cut]; congr 1; omega
theorem F39_eq (hN:b.length+20≤N) (hl:b.length≤70368744177664) (hb:∀ x∈b,bS x):aB3 N b=some (unB b):=by
 obtain ⟨a1,a2,a3,_⟩:=pv_k hb
 have a4:=a3.1; have a5:=a3.2
 unfold aB3 unB
 rw [aKx (by omega) (by omega) hb,Option.bind_some]
 generalize hp:pv 0 0 b=p at a1 a2 a4 a5 ⊢
 by_cases he:p.2.2=0
 ·rw [if_neg (by simpa using he), show (!(p.2.2 == 0)) = false by simp [he]]
  simp only [cond_false]
  by_cases hn:p.1 < 0
  ·rw [if_pos hn,decide_eq_true hn]; rfl
  ·rw [if_neg hn, decide_eq_false hn]
   simp only [cond_false]
   by_cases hm:1048576 < p.1
   ·rw [if_pos hm,decide_eq_true hm]; rfl
   ·rw [if_neg hm, decide_eq_false hm]
    simp only [cond_false]
    rw [bH (n:=(b.length:Int) - p.2.1) (by omega) (by omega),bH (n:=p.1+4) (by omega) (by omega)]
    by_cases hs:(b.length:Int) - p.2.1 < p.1+4
    ·rw [if_pos hs,decide_eq_true hs]; rfl
    ·rw [if_neg hs,decide_eq_false hs]
     simp only [cond_false]
     rw [bH (n:=p.2.1+p.1) (by omega) (by omega),bH (n:=p.2.1+p.1+4) (by omega) (by omega)]
     rw [wW (l:=p.2.1+p.1) (by omega) (by omega) (by omega),wW (l:=p.2.1) (by omega) (by omega) (by omega)]
     simp only [cond_true]
     rw [aOT a1 (by omega),aOT (i:=p.2.1+p.1) (n:=4) (by omega) (by omega)]
     have hsub:∀ x∈(b.drop p.2.1.toNat).take p.1.toNat,bS x:=fun x hx=>hb x (List.mem_of_mem_drop (List.mem_of_mem_take hx))
     have hlen:((b.drop p.2.1.toNat).take p.1.toNat).length≤b.length:=by simp; omega
     rw [aOQ (by simp; omega) (by simp) (by intro m hm; simp only [List.mem_singleton] at hm; subst hm; exact ⟨by omega,by omega,hsub⟩),Option.bind_some]
     rw [show [(b.drop p.2.1.toNat).take p.1.toNat].flatten=(b.drop p.2.1.toNat).take p.1.toNat by simp]
     rw [show yU N (cQ ((b.drop p.2.1.toNat).take p.1.toNat))=some (dD (cQ ((b.drop p.2.1.toNat).take p.1.toNat))) from rfl,Option.bind_some]
     have h4:(List.take (4:Int).toNat (b.drop (p.2.1+p.1).toNat)).length≤4:=by simp; omega
     rw [F52_eq (by omega) (by omega),Option.bind_some]
     rw [show (4:Int).toNat=4 from rfl]
     by_cases hc:(b.drop (p.2.1+p.1).toNat).take 4=dD (cQ ((b.drop p.2.1.toNat).take p.1.toNat))
     ·rw [if_pos hc,decide_eq_true hc]
      simp only [Bool.not_true,cond_false]
      rw [aDF (by omega),Option.bind_some]
     ·rw [if_neg hc,decide_eq_false hc]; rfl
 ·rw [if_pos he,show (!(p.2.2==0))=true by simpa using he]; rfl
end
def jX (s:Int×List Int) (x:List Int):Int×List Int:=if s.2.length+x.length≤1048576 then (s.1,s.2++x) else (if s.1=0 then 3 else s.1,s.2)
def wr (e:Int) (w:List Int) (cs:List (List Int)):Int×Bool×List Int:=((cs.foldl jX (e,w)).1,true,(cs.foldl jX (e,w)).2)
theorem aX3 {s:Int×List Int} (h:s.2.length≤1048576) (x:List Int):(jX s x).2.length≤1048576:=by
 unfold jX; split
 ·simp; omega
 ·exact h
theorem aOU:∀ (cs:List (List Int)) {s:Int×List Int},s.2.length≤1048576→(cs.foldl jX s).2.length≤1048576
 | [],_,h=>h
 | x :: cs,s,h=>aOU cs (aX3 h x)
theorem aOV:∀ (cs:List (List Int)) (e:Int) (w:List Int),w.length+cs.flatten.length≤1048576→cs.foldl jX (e,w)=(e,w++cs.flatten)
 | [],e,w,_=>by simp
 | x :: cs, e, w, h => by
  rw [List.flatten_cons,List.length_append] at h
  rw [List.foldl_cons,jX,if_pos (show w.length+x.length≤1048576 by omega),aOV cs e (w++x) (by rw [List.length_append]; omega),List.flatten_cons,List.append_assoc]
theorem aOW:∀ (cs:List (List Int)) {s:Int×List Int},s.1≠0→(cs.foldl jX s).1=s.1
 | [],_,_=>rfl
 | x :: cs, s, h => by
  have h1:(jX s x).1=s.1:=by unfold jX; split<;>simp [h]
  rw [List.foldl_cons,aOW cs (by rw [h1]; exact h),h1]
theorem aOX:∀ (cs:List (List Int)) (w:List Int),w.length≤1048576→1048576 < w.length+cs.flatten.length→(cs.foldl jX (0,w)).1=3
 | [],w,h,h'=>by simp at h'; omega
 | x :: cs, w, h, h' => by
  rw [List.flatten_cons,List.length_append] at h'
  rw [List.foldl_cons,jX]
  split
  ·rename_i hf
   exact aOX cs (w++x) (by simp; simpa using hf) (by rw [List.length_append]; omega)
  ·rw [aOW cs (by simp)]; rfl
theorem bJ (e:Int) (w:List Int) (a b:List (List Int)):wr (wr e w a).1 (wr e w a).2.2 b=wr e w (a++b):=by
 simp only [wr,List.foldl_append]
theorem bL {e:Int} {w:List Int} (h:w.length≤1048576) (cs:List (List Int)):(wr e w cs).2.2.length≤1048576:=aOU cs h
theorem aDH (N:Nat) (e:Int) {w:List Int} (x:List Int):(rO N (nB w x).1 e (nB w x).2.1 (nB w x).2.2)=some (wr e w [x]):=by
 unfold rO wr nB
 simp only [List.foldl_cons,List.foldl_nil,jX]
 by_cases h:w.length+x.length≤1048576
 ·by_cases he:e=0
  ·subst he; simp [h]
  ·have:(e==0)=false:=by simpa using he
   simp [h,this]
 ·by_cases he:e=0
  ·subst he; simp [h]
  ·have:(e==0)=false:=by simpa using he
   simp [h,this,he]
def pI (n:Int):List Int:=bI (zig n)
def pB (l:List Int):List Int:=bI (zig (l.length:Int))++l
def pT (s:List UInt8):List Int:=pB (jU s)
theorem aAI (s:List UInt8):(jU s).length=s.length:=by simp [jU]
theorem aAJ {N:Nat} (hN:11≤N) {l:List Int} (hl:l.length < N) (hl2:l.length≤1000000) (hr:∀ n∈l,R64 n) {e:Int} {w:List Int} (hw:w.length≤1048576):bN N l e true w=some (wr e w (l.map pI)):=by
 unfold bN
 refine cH (fun q:uR=>0≤q.t8∧q.t8≤(l.length:Int)∧q.b1=true∧q.b12.length≤1048576∧wr q.b0 q.b12 ((l.drop q.t8.toNat).map pI)=wr e w (l.map pI)) (fun q=>((l.length:Int) - q.t8).toNat) ?_ N _ ⟨by simp,by simp,rfl,hw,by simp⟩ (by simp; omega)
 rintro ⟨i,b0,b1,b12⟩ nx ⟨g0,g1,rfl,g3,hq⟩ ih
 simp only at g0 g1 g3 hq ih ⊢
 by_cases hi:i < l.length
 ·have hm:=hr _ (fJ (default:Int) g0 hi)
  rw [cK (default:Int) g0 hi,List.map_cons,← List.singleton_append,← bJ] at hq
  simp only [decide_eq_true hi,bV g0 hi,cond_true]
  rw [aOF hN hm g3,Option.bind_some,aDH,Option.bind_some,bH (by omega) (by omega)]
  exact ih ⟨i+1,_,_,_⟩ ⟨by simp; omega,by simp; omega,rfl,bL g3 _,hq⟩ (by simp; omega)
 ·have:decide (i < (l.length:Int))=false:=by simpa using hi
  simp only [this,cond_false]
  rw [List.drop_eq_nil_of_le (by omega)] at hq
  rw [← hq]; rfl
theorem aDI {N:Nat} (hN:11≤N) {l:List Int} (hl:l.length < N) (hl2:l.length≤1000000) (hr:∀ n∈l,R64 n) {e:Int} {w:List Int} (hw:w.length≤1048576):dU N l e true w=some (wr e w (l.map pI)):=by
 unfold dU
 refine cH (fun q:uQ=>0≤q.t8∧q.t8≤(l.length:Int)∧q.b1=true∧q.b12.length≤1048576∧wr q.b0 q.b12 ((l.drop q.t8.toNat).map pI)=wr e w (l.map pI)) (fun q=>((l.length:Int) - q.t8).toNat) ?_ N _ ⟨by simp,by simp,rfl,hw,by simp⟩ (by simp; omega)
 rintro ⟨i,b0,b1,b12⟩ nx ⟨g0,g1,rfl,g3,hq⟩ ih
 simp only at g0 g1 g3 hq ih ⊢
 by_cases hi:i < l.length
 ·have hm:=hr _ (fJ (default:Int) g0 hi)
  rw [cK (default:Int) g0 hi,List.map_cons,← List.singleton_append,← bJ] at hq
  simp only [decide_eq_true hi,bV g0 hi,cond_true]
  rw [aOF hN hm g3,Option.bind_some,aDH,Option.bind_some,bH (by omega) (by omega)]
  exact ih ⟨i+1,_,_,_⟩ ⟨by simp; omega,by simp; omega,rfl,bL g3 _,hq⟩ (by simp; omega)
 ·have:decide (i < (l.length:Int))=false:=by simpa using hi
  simp only [this,cond_false]
  rw [List.drop_eq_nil_of_le (by omega)] at hq
  rw [← hq]; rfl
theorem aX4 {N:Nat} (hN:11≤N) {s:List UInt8} (hs:s.length≤1048576) {w:List Int} (hw:w.length≤1048576):aBJ N s true w=some (nB w (pT s)):=by
 unfold aBJ
 rw [aOO hN (by rw [aAI]; exact hs) hw]; rfl
theorem aX5 {N:Nat} (hN:11≤N) {l:List (List UInt8)} (hl:l.length < N) (hl2:l.length≤1000000) (hr:∀ n∈l,n.length≤1048576) {e:Int} {w:List Int} (hw:w.length≤1048576):aBK N l e true w=some (wr e w (l.map pT)):=by
 unfold aBK
 refine cH (fun q:uS=>0≤q.t8∧q.t8≤(l.length:Int)∧q.b1=true∧q.b12.length≤1048576∧wr q.b0 q.b12 ((l.drop q.t8.toNat).map pT)=wr e w (l.map pT)) (fun q=>((l.length:Int) - q.t8).toNat) ?_ N _ ⟨by simp,by simp,rfl,hw,by simp⟩ (by simp; omega)
 rintro ⟨i,b0,b1,b12⟩ nx ⟨g0,g1,rfl,g3,hq⟩ ih
 simp only at g0 g1 g3 hq ih ⊢
 by_cases hi:i < l.length
 ·have hm:=hr _ (fJ (default:(List UInt8)) g0 hi)
  rw [cK (default:(List UInt8)) g0 hi,List.map_cons,← List.singleton_append,← bJ] at hq
  simp only [decide_eq_true hi,bV g0 hi,cond_true]
  rw [aX4 hN hm g3,Option.bind_some,aDH,Option.bind_some,bH (by omega) (by omega)]
  exact ih ⟨i+1,_,_,_⟩ ⟨by simp; omega,by simp; omega,rfl,bL g3 _,hq⟩ (by simp; omega)
 ·have:decide (i < (l.length:Int))=false:=by simpa using hi
  simp only [this,cond_false]
  rw [List.drop_eq_nil_of_le (by omega)] at hq
  rw [← hq]; rfl
def dH (o:GOp):Prop:=(0≤o.Stamp.Time∧o.Stamp.Time≤1099511627776)∧(0≤o.Stamp.Site∧o.Stamp.Site < 8)∧(1≤o.Kind∧o.Kind≤3)∧(0≤o.Node∧o.Node≤1125899906842624)∧(0≤o.Parent∧o.Parent≤1125899906842624) ∧
 o.Name.length≤255∧o.Key.length≤255∧o.Value.length≤255
instance (o:GOp):Decidable (dH o):=by unfold dH; infer_instance
def opC (o:GOp):List (List Int):=[o.Stamp.Time].map pI++[o.Stamp.Site,o.Kind].map pI++[o.Node,o.Parent].map pI++[o.Name,o.Key,o.Value].map pT
def opB (o:GOp):List Int:=(opC o).flatten
theorem aOY {N:Nat} (hN:20≤N) {o:GOp} (ho:dH o) {e:Int} {w:List Int} (hw:w.length≤1048576):uT N o e true w=some (wr e w (opC o)):=by
 obtain ⟨h1,h2,h3,h4,h5,h6,h7,h8⟩:=ho
 unfold uT
 rw [aAJ (by omega) (by simp; omega) (by simp) (by intro n hn; simp at hn; subst hn; exact ⟨by omega,by omega⟩) hw,Option.bind_some]
 rw [show (wr e w (List.map pI [o.Stamp.Time])).2.1=true from rfl,aDI (by omega) (by simp; omega) (by simp) (by intro n hn; simp at hn; rcases hn with rfl | rfl<;>exact ⟨by omega,by omega⟩) (bL hw _),bJ,Option.bind_some]
 rw [show (wr e w (List.map pI [o.Stamp.Time]++List.map pI [o.Stamp.Site,o.Kind])).2.1=true from rfl,aAJ (by omega) (by simp; omega) (by simp) (by intro n hn; simp at hn; rcases hn with rfl | rfl<;>exact ⟨by omega,by omega⟩) (bL hw _),bJ,Option.bind_some]
 rw [show (wr e w (List.map pI [o.Stamp.Time]++List.map pI [o.Stamp.Site,o.Kind]++List.map pI [o.Node,o.Parent])).2.1=true from rfl,aX5 (by omega) (by simp; omega) (by simp) (by intro n hn; simp at hn; rcases hn with rfl | rfl | rfl<;>omega) (bL hw _),bJ,Option.bind_some]
 rfl
theorem gF {n:Int} (h:R64 n):(pI n).length≤10:=gZ (jF h)
theorem xB {s:List UInt8} (h:s.length≤1048576):(pT s).length≤s.length+10:=by
 have:=gZ (jF (n:=((jU s).length:Int)) ⟨by omega,by rw [aAI]; omega⟩)
 unfold pT pB; rw [List.length_append,aAI] at *; omega
theorem aKy {o:GOp} (ho:dH o):(opB o).length≤845:=by
 obtain ⟨h1,h2,h3,h4,h5,h6,h7,h8⟩:=ho
 have a1:=gF (n:=o.Stamp.Time) ⟨by omega,by omega⟩
 have a2:=gF (n:=o.Stamp.Site) ⟨by omega,by omega⟩
 have a3:=gF (n:=o.Kind) ⟨by omega,by omega⟩
 have a4:=gF (n:=o.Node) ⟨by omega,by omega⟩
 have a5:=gF (n:=o.Parent) ⟨by omega,by omega⟩
 have a6:=xB (s:=o.Name) (by omega)
 have a7:=xB (s:=o.Key) (by omega)
 have a8:=xB (s:=o.Value) (by omega)
 simp only [opB,opC,List.map_cons,List.map_nil,List.flatten_append,List.flatten_cons,List.flatten_nil,List.length_append,List.length_nil]
 omega
section
variable {N:Nat}
theorem count1 (hN:5≤N) (a:Int):dT N [a]=some (decide (0≤a∧a≤1099511627776)):=by
 obtain ⟨k,rfl⟩:∃ k,N=k+5:=⟨N - 5,by omega⟩
 have:dT (k+5) [a]=(bif (decide (a < 0)) || (decide (1099511627776 < a)) then some false else some true):=by kernel_rfl
 rw [this]
 by_cases h1:a < 0<;>by_cases h2:1099511627776 < a<;>simp [h1,h2]<;>omega
theorem site1 (hN:5≤N) (a:Int):eT N [a]=some (decide (0≤a∧a < 8)):=by
 obtain ⟨k,rfl⟩:∃ k,N=k+5:=⟨N - 5,by omega⟩
 have:eT (k+5) [a]=(bif (decide (a < 0)) || (decide (8≤a)) then some false else some true):=by kernel_rfl
 rw [this]
 by_cases h1:a < 0<;>by_cases h2:8≤a<;>simp [h1,h2]<;>omega
theorem node2 (hN:5≤N) (a b:Int):aBp N [a,b]=some (decide ((0≤a∧a≤1125899906842624)∧(0≤b∧b≤1125899906842624))):=by
 obtain ⟨k,rfl⟩:∃ k,N=k+5:=⟨N - 5,by omega⟩
 have:aBp (k+5) [a,b]=(bif (decide (a < 0)) || (decide (1125899906842624 < a)) then some false else bif (decide (b < 0)) || (decide (1125899906842624 < b)) then some false else some true):=by kernel_rfl
 rw [this]
 by_cases h1:a < 0<;>by_cases h2:1125899906842624 < a<;>by_cases h3:b < 0<;>by_cases h4:1125899906842624 < b<;>simp [h1,h2,h3,h4]<;>omega
theorem text3 (hN:6≤N) (a b c:List UInt8):aBq N [a,b,c]=some (decide (a.length≤255∧b.length≤255∧c.length≤255)):=by
 obtain ⟨k,rfl⟩:∃ k,N=k+6:=⟨N - 6,by omega⟩
 have:aBq (k+6) [a,b,c]=(bif decide (255 < (a.length:Int)) then some false else bif decide (255 < (b.length:Int)) then some false else bif decide (255 < (c.length:Int)) then some false else some true):=by kernel_rfl
 rw [this]
 by_cases h1:255 < (a.length:Int)<;>by_cases h2:255 < (b.length:Int)<;>by_cases h3:255 < (c.length:Int)<;>simp [h1,h2,h3]<;>omega
theorem aOZ (hN:10≤N) (o:GOp):uH N o=some (decide (dH o)):=by
 unfold uH
 simp only [count1 (N:=N) (by omega),site1 (N:=N) (by omega),node2 (N:=N) (by omega),text3 (N:=N) (by omega),Option.bind_some]
 unfold dH
 by_cases h1:(0≤o.Stamp.Time∧o.Stamp.Time≤1099511627776)<;>by_cases h2:(0≤o.Stamp.Site∧o.Stamp.Site < 8)<;>by_cases h3:1≤o.Kind<;>by_cases h4:o.Kind≤3 <;>
  by_cases h5:((0≤o.Node∧o.Node≤1125899906842624)∧(0≤o.Parent∧o.Parent≤1125899906842624))<;>simp [h1,h2,h3,h4,h5]<;>omega
theorem aO0 (o:GOp):sB N o=some (decide (dH o)):=by
 unfold sB aIn cE dA aCs dH
 simp only [Option.bind_some]
 by_cases h1:0≤o.Stamp.Time<;>by_cases h1':o.Stamp.Time≤1099511627776<;>simp [h1,h1']
 by_cases h2:0≤o.Stamp.Site<;>by_cases h2':o.Stamp.Site < 8<;>simp [h2,h2']
 by_cases h3:1≤o.Kind<;>by_cases h4:o.Kind≤3<;>simp [h3,h4]
 by_cases h5:0≤o.Node<;>by_cases h5':o.Node≤1125899906842624<;>simp [h5,h5']
 by_cases h6:0≤o.Parent<;>by_cases h6':o.Parent≤1125899906842624<;>simp [h6,h6']
 by_cases h7:o.Name.length≤255<;>by_cases h8:o.Key.length≤255<;>by_cases h9:o.Value.length≤255<;>simp [h7,h8,h9]<;>omega
theorem qR (hN:20≤N) {l:List Int} (hl:l.length < N) (hl2:l.length≤1000000) (hr:∀ n∈l,R64 n):iX N l=some (l.map pI).flatten:=by
 unfold iX
 refine cH (fun q:vQ=>0≤q.i∧q.i≤(l.length:Int)∧(q.b.length:Int)≤10 * q.i∧q.b++((l.drop q.i.toNat).map pI).flatten=(l.map pI).flatten) (fun q=>((l.length:Int) - q.i).toNat) ?_ N _ ⟨by simp,by simp,by simp,by simp⟩ (by simp; omega)
 rintro ⟨b,i⟩ nx ⟨g0,g1,g2,hq⟩ ih
 simp only at g0 g1 g2 hq ih ⊢
 by_cases hi:i < l.length
 ·have hm:=hr _ (fJ (default:Int) g0 hi)
  have hp:=gF hm
  rw [cK (default:Int) g0 hi,List.map_cons,List.flatten_cons] at hq
  simp only [decide_eq_true hi,bV g0 hi,cond_true]
  rw [aAH (by omega) hm,Option.bind_some,bY (by unfold pI at hp; omega),bH (by omega) (by omega)]
  exact ih ⟨_,i+1⟩ ⟨by simp; omega,by simp; omega,by simp only [List.length_append]; unfold pI at hp; omega,by simp only [List.append_assoc]; exact hq⟩ (by simp; omega)
 ·have:decide (i < (l.length:Int))=false:=by simpa using hi
  simp only [this,cond_false]
  rw [List.drop_eq_nil_of_le (by omega)] at hq
  rw [← hq]; simp
theorem aKz (hN:20≤N) {b:List Int} {s:List UInt8} (hb:b.length≤10000000) (hs:s.length≤1048576):vR N b s=some (b++pT s):=by
 have hp:=xB hs
 unfold vR
 rw [aOP (by omega) (by rw [aAI]; exact hs),Option.bind_some,bY (by unfold pT pB at hp; omega)]
 rfl
theorem aO1 (hN:20≤N) {o:GOp} (ho:dH o):vS N o=some (opB o):=by
 have ho':=ho
 obtain ⟨h1,h2,h3,h4,h5,h6,h7,h8⟩:=ho'
 have a1:=gF (n:=o.Stamp.Time) ⟨by omega,by omega⟩
 have a2:=gF (n:=o.Stamp.Site) ⟨by omega,by omega⟩
 have a3:=gF (n:=o.Kind) ⟨by omega,by omega⟩
 have a4:=gF (n:=o.Node) ⟨by omega,by omega⟩
 have a5:=gF (n:=o.Parent) ⟨by omega,by omega⟩
 have a6:=xB (s:=o.Name) (by omega)
 have a7:=xB (s:=o.Key) (by omega)
 unfold vS
 rw [qR hN (by simp; omega) (by simp) (by intro n hn; simp at hn; rcases hn with rfl | rfl | rfl | rfl | rfl<;>exact ⟨by omega,by omega⟩),Option.bind_some]
 have hb:(([o.Stamp.Time,o.Stamp.Site,o.Kind,o.Node,o.Parent].map pI).flatten).length≤50:=by simp; omega
 rw [aKz hN (by omega) (by omega),Option.bind_some,aKz hN (by rw [List.length_append]; omega) (by omega),Option.bind_some,aKz hN (by simp only [List.length_append]; omega) (by omega),Option.bind_some]
 simp [opB,opC]
theorem wr_fit {e:Int} {w:List Int} {cs:List (List Int)} (h:w.length+cs.flatten.length≤1048576):wr e w cs=(e,true,w++cs.flatten):=by
 unfold wr; rw [aOV cs e w h]
end
def cnt (n:Int):Prop:=0≤n∧n≤1099511627776
instance (n:Int):Decidable (cnt n):=by unfold cnt; infer_instance
def sit (n:Int):Prop:=0≤n∧n < 8
instance (n:Int):Decidable (sit n):=by unfold sit; infer_instance
def fB (v:Vector Int 8):Prop:=∀ n∈v.toList,cnt n
instance (v:Vector Int 8):Decidable (fB v):=by unfold fB; infer_instance
def kW (e:aD) (j:Nat):Prop:=(0≤bC e.States j default∧bC e.States j default≤3)∧(-1≤bC e.Sponsor j default∧bC e.Sponsor j default < 8)
instance (e:aD) (j:Nat):Decidable (kW e j):=by unfold kW; infer_instance
def eC (e:aD):Prop:=cnt e.Number∧fB e.Seals∧∀ j,j < 8→kW e j
def dL (p:aE):Prop:=cnt p.Snap∧(1≤p.Many∧p.Many≤4096)∧(0≤p.Index∧p.Index < p.Many)∧p.Data.length≤16384
instance (p:aE):Decidable (dL p):=by unfold dL; infer_instance
def eR (l:List GOp):Prop:=1≤l.length∧l.length≤4096∧∀ o∈l,dH o
instance (l:List GOp):Decidable (eR l):=by unfold eR; infer_instance
theorem cL {α:Type} (c:Bool) (x y:α):(bif c then some x else some y)=some (bif c then x else y):=by cases c<;>rfl
theorem dE (c x y:Bool):(c&&(bif c then x else y))=(c&&x):=by cases c<;>rfl
def opq (a b:GOp):Bool:=(((a.Stamp.Time==b.Stamp.Time)&&(a.Stamp.Site==b.Stamp.Site))&&((a.Kind==b.Kind)&&((a.Node==b.Node)&&((a.Parent==b.Parent)&&((a.Name==b.Name)&&((a.Key==b.Key)&&(a.Value==b.Value)))))))
theorem aO2 (a b:GOp):opq a b=true↔a=b:=by
 obtain ⟨⟨a1,a2⟩,a3,a4,a5,a6,a7,a8⟩:=a
 obtain ⟨⟨b1,b2⟩,b3,b4,b5,b6,b7,b8⟩:=b
 simp [opq,and_assoc]
def qS (a b:List GOp):Bool:=((a.length:Int)==(b.length:Int))&&((a.zip b).all fun p=>opq p.1 p.2)
theorem aO3 (a b:List GOp):qS a b=true↔a=b:=by
 unfold qS
 by_cases h:a.length=b.length
 ·simp only [h,beq_self_eq_true,Bool.true_and]
  exact aKk aO2 a b h
 ·have:((a.length:Int)==(b.length:Int))=false:=by simp; omega
  simp only [this,Bool.false_and,Bool.false_eq_true,false_iff]
  exact fun e=>h (by rw [e])
section
variable {N:Nat}
theorem aO4 {a b:List GOp} (hN:a.length < N) (ha:a.length≤9223372036854775807):yB N a b=some (qS a b):=by
 unfold yB qS
 by_cases hl:a.length=b.length
 ·simp only [hl,beq_self_eq_true,Bool.not_true,cond_false,Bool.true_and]
  refine cH (fun q:uF=>0≤q.t13∧q.t13≤(a.length:Int)∧(((a.drop q.t13.toNat).zip (b.drop q.t13.toNat)).all fun p=>opq p.1 p.2)=((a.zip b).all fun p=>opq p.1 p.2)) (fun q=>((a.length:Int) - q.t13).toNat) ?_ N _ ⟨by simp,by simp,by simp⟩ (by simp; omega)
  rintro ⟨i⟩ nx ⟨g0,g1,hq⟩ ih
  simp only at g0 g1 hq ih ⊢
  by_cases hi:i < b.length
  ·have hi':i < a.length:=by omega
   rw [cK (default:GOp) g0 hi,cK (default:GOp) g0 hi',List.zip_cons_cons,List.all_cons] at hq
   simp only [decide_eq_true hi,bV g0 hi,cond_true]
   change (bif !(opq (aA a i default) (aA b i default)) then _ else _)=_
   cases ho:opq (aA a i default) (aA b i default) with
   | true =>
    rw [ho,Bool.true_and] at hq
    simp only [Bool.not_true,cond_false]
    rw [bH (by omega) (by omega)]
    exact ih ⟨i+1⟩ ⟨by simp; omega,by simp; omega,hq⟩ (by simp; omega)
   | false=>rw [ho,Bool.false_and] at hq; rw [← hq]; rfl
  ·have:decide (i < (b.length:Int))=false:=by simpa using hi
   simp only [this,cond_false]
   rw [List.drop_eq_nil_of_le (by omega)] at hq
   rw [← hq]; rfl
 ·have:((a.length:Int)==(b.length:Int))=false:=by simp; omega
  simp only [this,Bool.not_false,cond_true,Bool.false_and]
theorem aO5 {a b:List GOp} (hN:a.length < N) (ha:a.length≤9223372036854775807):zN N a b=some (qS a b):=by
 unfold zN qS
 by_cases hl:a.length=b.length
 ·simp only [hl,beq_self_eq_true,Bool.not_true,cond_false,Bool.true_and]
  refine cH (fun q:vJ=>0≤q.i∧q.i≤(a.length:Int)∧(((a.drop q.i.toNat).zip (b.drop q.i.toNat)).all fun p=>opq p.1 p.2)=((a.zip b).all fun p=>opq p.1 p.2)) (fun q=>((a.length:Int) - q.i).toNat) ?_ N _ ⟨by simp,by simp,by simp⟩ (by simp; omega)
  rintro ⟨i⟩ nx ⟨g0,g1,hq⟩ ih
  simp only at g0 g1 hq ih ⊢
  by_cases hi:i < b.length
  ·have hi':i < a.length:=by omega
   rw [cK (default:GOp) g0 hi,cK (default:GOp) g0 hi',List.zip_cons_cons,List.all_cons] at hq
   simp only [decide_eq_true hi,bV g0 hi,cond_true]
   change (bif !(opq (aA a i default) (aA b i default)) then _ else _)=_
   cases ho:opq (aA a i default) (aA b i default) with
   | true =>
    rw [ho,Bool.true_and] at hq
    simp only [Bool.not_true,cond_false]
    rw [bH (by omega) (by omega)]
    exact ih ⟨i+1⟩ ⟨by simp; omega,by simp; omega,hq⟩ (by simp; omega)
   | false=>rw [ho,Bool.false_and] at hq; rw [← hq]; rfl
  ·have:decide (i < (b.length:Int))=false:=by simpa using hi
   simp only [this,cond_false]
   rw [List.drop_eq_nil_of_le (by omega)] at hq
   rw [← hq]; rfl
 ·have:((a.length:Int)==(b.length:Int))=false:=by simp; omega
  simp only [this,Bool.not_false,cond_true,Bool.false_and]
def epq (a b:aD):Bool:=((a.Number==b.Number)&&((bR cX a.States b.States)&&((bR cM a.Seals b.Seals)&&(bR cX a.Sponsor b.Sponsor))))
theorem aKA (x y:Int):cM x y=true↔x=y:=by simp [cM]
theorem aX6 (x y:Int):cX x y=true↔x=y:=by simp [cX]
theorem aO6 (a b:aD):epq a b=true↔a=b:=by
 obtain ⟨a1,a2,a3,a4⟩:=a
 obtain ⟨b1,b2,b3,b4⟩:=b
 simp only [epq,Bool.and_eq_true,beq_iff_eq,aDD aKA,aDD aX6,aD.mk.injEq]
def byt (l:List Int):Prop:=∀ x∈l,bS x
def ptq (a b:aE):Bool:=((((a.Snap==b.Snap)&&(a.Index==b.Index))&&(a.Many==b.Many))&&((jD a.Data)==(jD b.Data)))
theorem aX7 {a b:List Int} (ha:byt a) (hb:byt b):jD a=jD b↔a=b :=
 ⟨fun h=>by rw [← aON ha,← aON hb,h],fun h=>by rw [h]⟩
theorem aO7 {a b:aE} (ha:byt a.Data) (hb:byt b.Data):ptq a b=true↔a=b:=by
 obtain ⟨a1,a2,a3,a4⟩:=a
 obtain ⟨b1,b2,b3,b4⟩:=b
 simp only [ptq,Bool.and_eq_true,beq_iff_eq,aX7 ha hb,aE.mk.injEq,and_assoc]
def fC (a b:aC):Bool :=
 ((((((((((((((a.Kind==b.Kind)&&(a.Session==b.Session))&&(a.Request==b.Request))&&opq a.Op b.Op)&&(a.Origin==b.Origin))&&(a.Seq==b.Seq))&&qS a.Ops b.Ops)&&epq a.Epoch b.Epoch)&&(a.From==b.From))&&(bR cM a.Vector_ b.Vector_))&&(a.Clock==b.Clock))&&ptq a.Part b.Part)&&(a.Site==b.Site))&&(a.Sponsor==b.Sponsor))&&(a.Length==b.Length)
theorem aAK {a b:aC} (ha:byt a.Part.Data) (hb:byt b.Part.Data):fC a b=true↔a=b:=by
 obtain ⟨a1,a2,a3,a4,a5,a6,a7,a8,a9,a10,a11,a12,a13,a14,a15⟩:=a
 obtain ⟨b1,b2,b3,b4,b5,b6,b7,b8,b9,b10,b11,b12,b13,b14,b15⟩:=b
 simp only [fC,Bool.and_eq_true,beq_iff_eq,aO2,aO3,aO6,aDD aKA,aO7 (a:=a12) (b:=b12) ha hb,aC.mk.injEq,and_assoc]
theorem aKB {a b:aC} (hN:a.Ops.length < N) (ha:a.Ops.length≤9223372036854775807):dK N a b=some (fC a b):=by
 unfold dK yC
 rw [aO4 hN ha]
 simp only [cL,Option.bind_some,dE]
 rfl
theorem aKC {a b:aC} (hN:a.Ops.length < N) (ha:a.Ops.length≤9223372036854775807):gT N a b=some (fC a b):=by
 unfold gT zO
 rw [aO5 hN ha]
 simp only [cL,Option.bind_some,dE]
 rfl
end
theorem jY {b:Bool} {P:Prop} [inst:Decidable P] (h:b=true↔P):b=decide P:=by
 by_cases hp:P
 ·rw [decide_eq_true hp]; exact h.2 hp
 ·rw [decide_eq_false hp]
  cases b with
  | false=>rfl
  | true=>exact absurd (h.1 rfl) hp
instance (e:aD):Decidable (eC e):=by unfold eC; infer_instance
section
variable {N:Nat}
theorem nC {l:List Int} (hN:l.length < N) (hl:l.length≤1000000):dT N l=some (l.all fun n=>decide (cnt n)):=by
 unfold dT
 refine cH (fun q:uE=>0≤q.t7∧q.t7≤(l.length:Int)∧((l.drop q.t7.toNat).all fun n=>decide (cnt n))=l.all fun n=>decide (cnt n)) (fun q=>((l.length:Int) - q.t7).toNat) ?_ N _ ⟨by simp,by simp,by simp⟩ (by simp; omega)
 rintro ⟨i⟩ nx ⟨g0,g1,hq⟩ ih
 simp only at g0 g1 hq ih ⊢
 by_cases hi:i < l.length
 ·rw [cK (default:Int) g0 hi,List.all_cons] at hq
  simp only [decide_eq_true hi,bV g0 hi,cond_true]
  generalize aA l i default=n at hq ⊢
  by_cases hn:cnt n
  ·have h1:decide (n < 0)=false:=by simpa using hn.1
   have h2:decide (1099511627776 < n)=false:=by simpa using hn.2
   rw [decide_eq_true hn,Bool.true_and] at hq
   simp only [h1,h2,Bool.or_self,cond_false]
   rw [bH (by omega) (by omega)]
   exact ih ⟨i+1⟩ ⟨by simp; omega,by simp; omega,hq⟩ (by simp; omega)
  ·have h1:(decide (n < 0) || decide (1099511627776 < n))=true:=by unfold cnt at hn; simp; omega
   rw [decide_eq_false hn,Bool.false_and] at hq
   rw [h1,← hq]; rfl
 ·have:decide (i < (l.length:Int))=false:=by simpa using hi
  simp only [this,cond_false]
  rw [List.drop_eq_nil_of_le (by omega)] at hq
  rw [← hq]; rfl
theorem aKD {l:List Int} (hN:l.length < N) (hl:l.length≤1000000):eT N l=some (l.all fun n=>decide (sit n)):=by
 unfold eT
 refine cH (fun q:uG=>0≤q.t7∧q.t7≤(l.length:Int)∧((l.drop q.t7.toNat).all fun n=>decide (sit n))=l.all fun n=>decide (sit n)) (fun q=>((l.length:Int) - q.t7).toNat) ?_ N _ ⟨by simp,by simp,by simp⟩ (by simp; omega)
 rintro ⟨i⟩ nx ⟨g0,g1,hq⟩ ih
 simp only at g0 g1 hq ih ⊢
 by_cases hi:i < l.length
 ·rw [cK (default:Int) g0 hi,List.all_cons] at hq
  simp only [decide_eq_true hi,bV g0 hi,cond_true]
  generalize aA l i default=n at hq ⊢
  by_cases hn:sit n
  ·have h1:decide (n < 0)=false:=by simpa using hn.1
   have h2:decide (8≤n)=false:=by simpa using hn.2
   rw [decide_eq_true hn,Bool.true_and] at hq
   simp only [h1,h2,Bool.or_self,cond_false]
   rw [bH (by omega) (by omega)]
   exact ih ⟨i+1⟩ ⟨by simp; omega,by simp; omega,hq⟩ (by simp; omega)
  ·have h1:(decide (n < 0) || decide (8≤n))=true:=by unfold sit at hn; simp; omega
   rw [decide_eq_false hn,Bool.false_and] at hq
   rw [h1,← hq]; rfl
 ·have:decide (i < (l.length:Int))=false:=by simpa using hi
  simp only [this,cond_false]
  rw [List.drop_eq_nil_of_le (by omega)] at hq
  rw [← hq]; rfl
theorem aKE (v:Vector Int 8):(v.toList.all fun n=>decide (cnt n))=decide (fB v):=by
 exact jY (by unfold fB; simp only [List.all_eq_true,decide_eq_true_eq])
theorem aX8 {l:List GOp} (hN:l.length+12≤N) (hl:l.length≤9223372036854775807):aBu N l=some (!(l.all fun o=>decide (dH o))):=by
 unfold aBu
 have key:∃ r,aBt N l=some r∧decide (0≤r)=!(l.all fun o=>decide (dH o)):=by
  unfold aBt
  refine wV (fun q:uI=>0≤q.t8∧q.t8≤(l.length:Int)∧((l.drop q.t8.toNat).all fun n=>decide (dH n))=l.all fun n=>decide (dH n)) (fun q=>((l.length:Int) - q.t8).toNat) _ ?_ N _ ⟨by simp,by simp,by simp⟩ (by simp; omega)
  rintro ⟨i⟩ nx ⟨g0,g1,hq⟩ ih
  simp only at g0 g1 hq ih ⊢
  by_cases hi:i < l.length
  ·rw [cK (default:GOp) g0 hi,List.all_cons] at hq
   simp only [decide_eq_true hi,bV g0 hi,cond_true]
   have h1:aBs N (⟨(aA l i default).Stamp,(aA l i default).Kind,(aA l i default).Node,(aA l i default).Parent,(aA l i default).Name,(aA l i default).Key,(aA l i default).Value⟩:GOp)=some (!decide (dH (aA l i default))):=by
    unfold aBs
    rw [aOZ (by omega)]; rfl
   rw [h1,Option.bind_some]
   by_cases ho:dH (aA l i default)
   ·rw [decide_eq_true ho,Bool.true_and] at hq
    rw [decide_eq_true ho]
    simp only [Bool.not_true,cond_false]
    rw [bH (by omega) (by omega)]
    exact ih ⟨i+1⟩ ⟨by simp; omega,by simp; omega,hq⟩ (by simp; omega)
   ·rw [decide_eq_false ho,Bool.false_and] at hq
    rw [decide_eq_false ho]
    exact ⟨i,rfl,by rw [← hq]; simpa using g0⟩
  ·have:decide (i < (l.length:Int))=false:=by simpa using hi
   simp only [this,cond_false]
   rw [List.drop_eq_nil_of_le (by omega)] at hq
   exact ⟨-1,rfl,by rw [← hq]; rfl⟩
 obtain ⟨r,h1,h2⟩:=key
 rw [h1,Option.bind_some,h2]
theorem aO8 {l:List GOp} (hN:l.length+12≤N) (hl:l.length≤9223372036854775807):nN N l 1=some (decide (eR l)):=by
 unfold nN
 rw [aX8 hN hl]
 simp only [cL,Option.bind_some]
 refine congrArg some (jY ?_)
 unfold eR
 by_cases h1:(1:Int)≤l.length
 ·by_cases h2:(l.length:Int)≤4096
  ·simp only [decide_eq_true h1,decide_eq_true h2,Bool.and_self,cond_true,Bool.true_and,Bool.not_not,List.all_eq_true,decide_eq_true_eq]
   exact ⟨fun h=>⟨by omega,by omega,h⟩,fun h=>h.2.2⟩
  ·simp only [decide_eq_false h2,Bool.and_false,Bool.false_and,Bool.false_eq_true,false_iff]
   exact fun h=>h2 (by omega)
 ·simp only [decide_eq_false h1,Bool.false_and,Bool.false_eq_true,false_iff]
  exact fun h=>h1 (by omega)
theorem aO9 {l:List GOp} (hN:l.length+12≤N) (hl:l.length≤9223372036854775807):sC N l=some (decide (eR l)):=by
 unfold sC
 refine cH (fun q:vM=>0≤q.i∧q.i≤(l.length:Int)∧((∀ o∈l.drop q.i.toNat,dH o)↔∀ o∈l,dH o)) (fun q=>((l.length:Int) - q.i).toNat) ?_ N _ ⟨by simp,by simp,by simp⟩ (by simp; omega)
 rintro ⟨i⟩ nx ⟨g0,g1,hq⟩ ih
 simp only at g0 g1 hq ih ⊢
 by_cases hi:i < l.length
 ·rw [cK (default:GOp) g0 hi,List.forall_mem_cons] at hq
  simp only [decide_eq_true hi,bV g0 hi,cond_true]
  rw [aO0,Option.bind_some]
  change (bif !(decide (dH (aA l i default))) then _ else _)=_
  by_cases ho:dH (aA l i default)
  ·rw [decide_eq_true ho]
   simp only [Bool.not_true,cond_false]
   rw [bH (by omega) (by omega)]
   exact ih ⟨i+1⟩ ⟨by simp; omega,by simp; omega,⟨fun h=>hq.1 ⟨ho,h⟩,fun h=>(hq.2 h).2⟩⟩ (by simp; omega)
  ·rw [decide_eq_false ho]
   have:¬ eR l:=fun h=>ho (hq.2 h.2.2).1
   simp [this]
 ·have:decide (i < (l.length:Int))=false:=by simpa using hi
  simp only [this,cond_false]
  rw [List.drop_eq_nil_of_le (by omega)] at hq
  have hall:∀ o∈l,dH o:=hq.1 (by simp)
  refine congrArg some (jY ?_)
  unfold eR
  simp only [Bool.and_eq_true,decide_eq_true_eq]
  constructor
  ·rintro ⟨h1,h2⟩; exact ⟨by omega,by omega,hall⟩
  ·rintro ⟨h1,h2,_⟩; exact ⟨by omega,by omega⟩
theorem aPa (hN:20≤N) (e:aD):nO N e=some (decide (eC e)):=by
 unfold nO
 rw [nC (by simp; omega) (by simp),Option.bind_some]
 by_cases hn:cnt e.Number
 ·simp only [List.all_cons,List.all_nil,Bool.and_true,decide_eq_true hn,cond_true,Bool.true_and]
  rw [nC (by simp; omega) (by simp),Option.bind_some,aKE]
  refine cH (fun q:uJ=>0≤q.t14∧q.t14≤8∧(q.ok=true↔fB e.Seals∧∀ j,j < q.t14.toNat→kW e j)) (fun q=>(8 - q.t14).toNat) ?_ N _ ⟨by simp,by simp,by simp⟩ (by simp; omega)
  rintro ⟨ok,i⟩ nx ⟨g0,g1,hq⟩ ih
  simp only at g0 g1 hq ih ⊢
  by_cases hi:i < 8
  ·simp only [decide_eq_true hi,bV g0 hi,Bool.or_true,cond_true]
   rw [bH (by omega) (by omega)]
   refine ih ⟨_,i+1⟩ ⟨by simp; omega,by simp; omega,?_⟩ (by simp; omega)
   simp only
   rw [show (i+1).toNat=i.toNat+1 by omega]
   have this:(((0≤bC e.States i.toNat default∧bC e.States i.toNat default≤3)∧-1≤bC e.Sponsor i.toNat default)∧bC e.Sponsor i.toNat default < 8)↔kW e i.toNat:=by unfold kW; rw [and_assoc]
   simp only [Bool.and_eq_true,decide_eq_true_eq,hq]
   constructor
   ·rintro ⟨⟨⟨⟨⟨h0,h1⟩,h2⟩,h3⟩,h4⟩,h5⟩
    refine ⟨h0,fun j hj=>?_⟩
    rcases Nat.lt_succ_iff_lt_or_eq.1 hj with h | rfl
    ·exact h1 j h
    ·exact this.1 ⟨⟨⟨h2,h3⟩,h4⟩,h5⟩
   ·rintro ⟨h0,h1⟩
    obtain ⟨⟨⟨h2,h3⟩,h4⟩,h5⟩:=this.2 (h1 _ (Nat.lt_succ_self _))
    exact ⟨⟨⟨⟨⟨h0,fun j hj=>h1 j (Nat.lt_succ_of_lt hj)⟩,h2⟩,h3⟩,h4⟩,h5⟩
  ·have:decide (i < (8:Int))=false:=by simpa using hi
   simp only [this,cond_false]
   refine congrArg some (jY ?_)
   rw [hq,show i.toNat=8 by omega]
   unfold eC
   exact ⟨fun h=>⟨hn,h⟩,fun h=>h.2⟩
 ·have hno:¬ eC e:=fun h=>hn h.1
  simp only [List.all_cons,List.all_nil,Bool.and_true,decide_eq_false hn,cond_false,decide_eq_false hno]
  refine cH (fun q:uK=>0≤q.t14∧q.t14≤8∧q.ok=false) (fun q=>(8 - q.t14).toNat) ?_ N _ ⟨by simp,by simp,rfl⟩ (by simp; omega)
  rintro ⟨ok,i⟩ nx ⟨g0,g1,rfl⟩ ih
  simp only at g0 g1 ih ⊢
  by_cases hi:i < 8
  ·simp only [decide_eq_true hi,bV g0 hi,Bool.or_true,cond_true,Bool.false_and]
   rw [bH (by omega) (by omega)]
   exact ih ⟨_,i+1⟩ ⟨by simp; omega,by simp; omega,rfl⟩ (by simp; omega)
  ·have:decide (i < (8:Int))=false:=by simpa using hi
   simp only [this,cond_false]
theorem aKF (hN:20≤N) (v:Vector Int 8):pR N v=some (decide (fB v)):=by
 unfold pR cE
 refine cH (fun q:vL=>0≤q.i∧q.i≤8∧∀ j,j < q.i.toNat→cnt (bC v j default)) (fun q=>(8 - q.i).toNat) ?_ N _ ⟨by simp,by simp,by simp⟩ (by simp; omega)
 rintro ⟨i⟩ nx ⟨g0,g1,hq⟩ ih
 simp only at g0 g1 hq ih ⊢
 by_cases hi:i < 8
 ·simp only [decide_eq_true hi,bV g0 hi,cond_true,Option.bind_some]
  have hc:(decide (0≤bC v i.toNat default)&&decide (bC v i.toNat default≤1099511627776))=decide (cnt (bC v i.toNat default)):=jY (by simp only [Bool.and_eq_true,decide_eq_true_eq]; exact Iff.rfl)
  rw [hc]
  by_cases hv:cnt (bC v i.toNat default)
  ·rw [decide_eq_true hv,bH (by omega) (by omega)]
   refine ih ⟨i+1⟩ ⟨by simp; omega,by simp; omega,fun j hj=>?_⟩ (by simp; omega)
   simp only at hj
   rw [show (i+1).toNat=i.toNat+1 by omega] at hj
   rcases Nat.lt_succ_iff_lt_or_eq.1 hj with h | rfl
   ·exact hq j h
   ·exact hv
  ·rw [decide_eq_false hv]
   have:¬ fB v:=fun h=>hv (h _ (aOn v default (by omega)))
   simp [this]
 ·have:decide (i < (8:Int))=false:=by simpa using hi
  simp only [this,cond_false]
  have:fB v:=fun n hn=>by
   obtain ⟨j,hj,rfl⟩:=List.getElem_of_mem hn
   have hj8:j < 8:=by simpa using hj
   have:=hq j (by omega)
   rw [aAD v default hj8] at this
   simpa using this
  simp [this]
theorem aPb (hN:20≤N) (e:aD):sD N e=some (decide (eC e)):=by
 unfold sD
 refine cH (fun q:vN=>0≤q.i∧q.i≤8∧∀ j,j < q.i.toNat→kW e j) (fun q=>(8 - q.i).toNat) ?_ N _ ⟨by simp,by simp,by simp⟩ (by simp; omega)
 rintro ⟨i⟩ nx ⟨g0,g1,hq⟩ ih
 simp only at g0 g1 hq ih ⊢
 by_cases hi:i < 8
 ·simp only [decide_eq_true hi,bV g0 hi,cond_true,Bool.or_true]
  have hc:(((decide (bC e.States i.toNat default < 0) || decide (3 < bC e.States i.toNat default)) || decide (bC e.Sponsor i.toNat default < -1)) || decide (8≤bC e.Sponsor i.toNat default))=!decide (kW e i.toNat):=by
   by_cases hv:kW e i.toNat
   ·have hv':=hv
    obtain ⟨⟨h1,h2⟩,h3,h4⟩:=hv'
    rw [decide_eq_true hv,decide_eq_false (by omega),decide_eq_false (by omega),decide_eq_false (by omega),decide_eq_false (by omega)]; rfl
   ·rw [decide_eq_false hv]
    unfold kW at hv
    simp only [Bool.or_eq_true,decide_eq_true_eq,Bool.not_false]
    omega
  rw [hc]
  by_cases hv:kW e i.toNat
  ·rw [decide_eq_true hv,bH (by omega) (by omega)]
   refine ih ⟨i+1⟩ ⟨by simp; omega,by simp; omega,fun j hj=>?_⟩ (by simp; omega)
   simp only at hj
   rw [show (i+1).toNat=i.toNat+1 by omega] at hj
   rcases Nat.lt_succ_iff_lt_or_eq.1 hj with h | rfl
   ·exact hq j h
   ·exact hv
  ·rw [decide_eq_false hv]
   have:¬ eC e:=fun h=>hv (h.2.2 _ (by omega))
   simp [this]
 ·have:decide (i < (8:Int))=false:=by simpa using hi
  simp only [this,cond_false]
  rw [aKF hN]
  unfold cE
  simp only [Option.bind_some,cL,dE]
  have hall:∀ j,j < 8→kW e j:=fun j hj=>hq j (by omega)
  refine congrArg some (jY ?_)
  unfold eC cnt
  simp only [Bool.and_eq_true,decide_eq_true_eq]
  exact ⟨fun h=>⟨h.1,h.2,hall⟩,fun h=>⟨h.1,h.2.1⟩⟩
theorem aPc (hN:20≤N) (p:aE):jN N p=some (decide (dL p)):=by
 unfold jN
 rw [nC (by simp; omega) (by simp),Option.bind_some]
 refine congrArg some (jY ?_)
 unfold dL
 simp only [List.all_cons,List.all_nil,Bool.and_true,Bool.and_eq_true,decide_eq_true_eq]
 constructor
 ·rintro ⟨⟨⟨⟨⟨h1,h2⟩,h3⟩,h4⟩,h5⟩,h6⟩; exact ⟨h1,⟨h2,h3⟩,⟨h4,h5⟩,by omega⟩
 ·rintro ⟨h1,⟨h2,h3⟩,⟨h4,h5⟩,h6⟩; exact ⟨⟨⟨⟨⟨h1,h2⟩,h3⟩,h4⟩,h5⟩,by omega⟩
theorem aPd (p:aE):pS N p=some (decide (dL p)):=by
 unfold pS cE
 rw [Option.bind_some]
 refine congrArg some (jY ?_)
 unfold dL cnt
 simp only [Bool.and_eq_true,decide_eq_true_eq]
 constructor
 ·rintro ⟨⟨⟨⟨⟨h1,h2⟩,h3⟩,h4⟩,h5⟩,h6⟩; exact ⟨h1,⟨h2,h3⟩,⟨h4,h5⟩,by omega⟩
 ·rintro ⟨h1,⟨h2,h3⟩,⟨h4,h5⟩,h6⟩; exact ⟨⟨⟨⟨⟨h1,h2⟩,h3⟩,h4⟩,h5⟩,by omega⟩
end
def zOp:GOp:=⟨(⟨0,0⟩:aL),0,0,0,[],[],[]⟩
def zV:Vector Int 8:=Vector.replicate 8 (default:Int)
def zEp:aD:=⟨0,zV,zV,zV⟩
def zPt:aE:=⟨0,0,0,[]⟩
def bZ (e:aC):aC :=
 bif e.Kind==1 then ⟨e.Kind,e.Session,e.Request,e.Op,0,0,[],zEp,0,zV,0,zPt,0,0,0⟩ else
 bif e.Kind==2 then ⟨e.Kind,0,0,zOp,e.Origin,e.Seq,e.Ops,zEp,0,zV,0,zPt,0,0,0⟩ else
 bif e.Kind==3 then ⟨e.Kind,0,0,zOp,0,0,[],e.Epoch,0,zV,0,zPt,0,0,0⟩ else
 bif e.Kind==4 then ⟨e.Kind,0,0,zOp,0,e.Seq,[],zEp,e.From,e.Vector_,e.Clock,zPt,0,0,0⟩ else
 bif e.Kind==5 then ⟨e.Kind,0,0,zOp,0,0,[],zEp,0,zV,0,e.Part,0,0,0⟩ else
 bif e.Kind==6 then ⟨e.Kind,0,0,zOp,0,0,[],zEp,0,zV,0,zPt,e.Site,e.Sponsor,0⟩ else
 bif e.Kind==7 then ⟨e.Kind,0,0,zOp,0,0,[],zEp,0,zV,0,zPt,e.Site,0,0⟩ else
 bif e.Kind==8 then ⟨e.Kind,0,0,zOp,0,0,[],zEp,0,zV,0,zPt,e.Site,0,e.Length⟩ else
 ⟨e.Kind,0,0,zOp,0,0,[],zEp,0,zV,0,zPt,0,0,0⟩
def eS (e:aC):Bool :=
 bif e.Kind==1 then decide (cnt e.Session)&&decide (0 < e.Session)&&decide (cnt e.Request)&&decide (0 < e.Request)&&decide (dH e.Op) else
 bif e.Kind==2 then decide (sit e.Origin)&&decide (cnt e.Seq)&&decide (eR e.Ops) else
 bif e.Kind==3 then decide (eC e.Epoch) else
 bif e.Kind==4 then decide (cnt e.Seq)&&decide (sit e.From)&&decide (fB e.Vector_)&&decide (cnt e.Clock) else
 bif e.Kind==5 then decide (dL e.Part) else
 decide (sit e.Site)&&decide (sit e.Sponsor)&&decide (cnt e.Length)
def jZ (e:aC):Prop:=0≤e.Kind∧e.Kind≤8
def nD (e:aC):Prop:=jZ e∧e=bZ e∧eS e=true
def Verd (P:Prop) (o:Option Int):Prop:=(P∧o=some 0)∨(¬ P∧o=some 40)
theorem aX9 {P:Prop} {b:Bool} (h:b=true↔P) (N:Nat):Verd P ((dN N b).bind fun r=>some r):=by
 cases b with
 | true=>exact .inl ⟨h.1 rfl,rfl⟩
 | false=>exact .inr ⟨fun hp=>(by cases h.2 hp),rfl⟩
theorem aKG {e:aC} (h:byt e.Part.Data):byt (bZ e).Part.Data:=by
 unfold bZ
 cases (e.Kind==1)<;>cases (e.Kind==2)<;>cases (e.Kind==3)<;>cases (e.Kind==4)<;>cases (e.Kind==5)<;>cases (e.Kind==6)<;>cases (e.Kind==7)<;>cases (e.Kind==8)<;>first | exact h | (intro x hx; cases hx)
theorem aPe (e:aC):(bZ e).Ops.length≤e.Ops.length:=by
 unfold bZ
 cases (e.Kind==1)<;>cases (e.Kind==2)<;>cases (e.Kind==3)<;>cases (e.Kind==4)<;>cases (e.Kind==5)<;>cases (e.Kind==6)<;>cases (e.Kind==7)<;>cases (e.Kind==8)<;>simp
section
variable {N:Nat}
theorem aYa {e:aC} (hb:byt e.Part.Data):fC (bZ e) e=true↔e=bZ e:=by
 rw [aAK (aKG hb) hb]; exact eq_comm
theorem aYb {e:aC} (hN:e.Ops.length+20≤N) (hl:e.Ops.length≤9223372036854775807) (hb:byt e.Part.Data):Verd (nD e) (gP N e):=by
 have hs:dK N (bZ e) e=some (fC (bZ e) e):=aKB (by have:=aPe e; omega) (by have:=aPe e; omega)
 have hsb:=aYa hb
 have hmo:=fun o=>aOZ (N:=N) (by omega) o
 have hc1:=fun a=>nC (N:=N) (l:=[a]) (by simp; omega) (by simp)
 have hc2:=fun a b=>nC (N:=N) (l:=[a,b]) (by simp; omega) (by simp)
 have hc8:=fun v:Vector Int 8=>nC (N:=N) (l:=v.toList) (by simp; omega) (by simp)
 have hs1:=fun a=>aKD (N:=N) (l:=[a]) (by simp; omega) (by simp)
 have hs2:=fun a b=>aKD (N:=N) (l:=[a,b]) (by simp; omega) (by simp)
 have hops:=aO8 (N:=N) (l:=e.Ops) (by omega) hl
 have hep:=fun x=>aPa (N:=N) (by omega) x
 have hpt:=fun x=>aPc (N:=N) (by omega) x
 have hm:jZ e→∀ b:Bool,(b=true↔e=bZ e∧eS e=true)→Verd (nD e) ((dN N b).bind fun r=>some r):=fun hk b h=>aX9 (h.trans ⟨fun h=>⟨hk,h⟩,fun h=>h.2⟩) N
 by_cases hk:jZ e
 ·replace hm:=hm hk
  have hk9:e.Kind=0∨e.Kind=1∨e.Kind=2∨e.Kind=3∨e.Kind=4∨e.Kind=5∨e.Kind=6∨e.Kind=7∨e.Kind=8:=by unfold jZ at hk; omega
  obtain ⟨kd,a2,a3,a4,a5,a6,a7,a8,a9,a10,a11,a12,a13,a14,a15⟩:=e
  simp only at hk9
  rcases hk9 with rfl | rfl | rfl | rfl | rfl | rfl | rfl | rfl | rfl
  ·have hz:gP N (⟨0,a2,a3,a4,a5,a6,a7,a8,a9,a10,a11,a12,a13,a14,a15⟩:aC)=((dK N (bZ ⟨0,a2,a3,a4,a5,a6,a7,a8,a9,a10,a11,a12,a13,a14,a15⟩) ⟨0,a2,a3,a4,a5,a6,a7,a8,a9,a10,a11,a12,a13,a14,a15⟩).bind fun r1=>((dN N r1).bind fun r2=>(some r2))):=rfl
   rw [hz,hs,Option.bind_some]
   refine hm _ (hsb.trans ⟨fun h=>⟨h,?_⟩,fun h=>h.1⟩)
   rw [h]; rfl
  ·have hz:gP N (⟨1,a2,a3,a4,a5,a6,a7,a8,a9,a10,a11,a12,a13,a14,a15⟩:aC)=((dT N [a2,a3]).bind fun r3 =>
     ((bif ((r3&&(decide (0 < a2)))&&(decide (0 < a3))) then uH N a4 else some default).bind fun r4 =>
     ((bif (((r3&&(decide (0 < a2)))&&(decide (0 < a3)))&&r4) then dK N (bZ ⟨1,a2,a3,a4,a5,a6,a7,a8,a9,a10,a11,a12,a13,a14,a15⟩) ⟨1,a2,a3,a4,a5,a6,a7,a8,a9,a10,a11,a12,a13,a14,a15⟩ else some default).bind fun r5 =>
     ((dN N ((((r3&&(decide (0 < a2)))&&(decide (0 < a3)))&&r4)&&r5)).bind fun r6=>(some r6))))):=rfl
   rw [hz,hc2,Option.bind_some,hmo,hs]
   simp only [cL,Option.bind_some,dE]
   refine hm _ ?_
   rw [show eS (⟨1,a2,a3,a4,a5,a6,a7,a8,a9,a10,a11,a12,a13,a14,a15⟩:aC)=(decide (cnt a2)&&decide (0 < a2)&&decide (cnt a3)&&decide (0 < a3)&&decide (dH a4)) from rfl]
   simp only [Bool.and_eq_true,hsb,List.all_cons,List.all_nil,Bool.and_true]
   constructor
   ·rintro ⟨⟨⟨⟨⟨h1,h2⟩,h3⟩,h4⟩,h5⟩,h6⟩; exact ⟨h6,⟨⟨⟨h1,h3⟩,h2⟩,h4⟩,h5⟩
   ·rintro ⟨h6,⟨⟨⟨h1,h3⟩,h2⟩,h4⟩,h5⟩; exact ⟨⟨⟨⟨⟨h1,h2⟩,h3⟩,h4⟩,h5⟩,h6⟩
  ·have hz:gP N (⟨2,a2,a3,a4,a5,a6,a7,a8,a9,a10,a11,a12,a13,a14,a15⟩:aC)=(((eT N [a5]).bind fun r7 =>
    ((bif r7 then dT N [a6] else some default).bind fun r8 =>
    ((bif (r7&&r8) then nN N a7 1 else some default).bind fun r9 =>
    ((bif ((r7&&r8)&&r9) then dK N (bZ (⟨2,a2,a3,a4,a5,a6,a7,a8,a9,a10,a11,a12,a13,a14,a15⟩:aC)) (⟨2,a2,a3,a4,a5,a6,a7,a8,a9,a10,a11,a12,a13,a14,a15⟩:aC) else some default).bind fun r10 =>
    ((dN N (((r7&&r8)&&r9)&&r10)).bind fun r11 =>
    (some r11))))))):=rfl
   rw [hz]
   simp only [hs1,hs2,hc1,hc2,hops,hep,hpt,hs,cL,Option.bind_some,dE,List.all_cons,List.all_nil,Bool.and_true]
   refine hm _ ?_
   rw [show eS (⟨2,a2,a3,a4,a5,a6,a7,a8,a9,a10,a11,a12,a13,a14,a15⟩:aC)=(decide (sit a5)&&decide (cnt a6)&&decide (eR a7)) from rfl]
   simp only [Bool.and_eq_true,hsb]
   exact ⟨fun q=>⟨q.2,q.1⟩,fun q=>⟨q.2,q.1⟩⟩
  ·have hz:gP N (⟨3,a2,a3,a4,a5,a6,a7,a8,a9,a10,a11,a12,a13,a14,a15⟩:aC)=(((nO N a8).bind fun r12 =>
    ((bif r12 then dK N (bZ (⟨3,a2,a3,a4,a5,a6,a7,a8,a9,a10,a11,a12,a13,a14,a15⟩:aC)) (⟨3,a2,a3,a4,a5,a6,a7,a8,a9,a10,a11,a12,a13,a14,a15⟩:aC) else some default).bind fun r13 =>
    ((dN N (r12&&r13)).bind fun r14 =>
    (some r14))))):=rfl
   rw [hz]
   simp only [hs1,hs2,hc1,hc2,hops,hep,hpt,hs,cL,Option.bind_some,dE,List.all_cons,List.all_nil,Bool.and_true]
   refine hm _ ?_
   rw [show eS (⟨3,a2,a3,a4,a5,a6,a7,a8,a9,a10,a11,a12,a13,a14,a15⟩:aC)=(decide (eC a8)) from rfl]
   simp only [Bool.and_eq_true,hsb]
   exact and_comm
  ·have hz:gP N (⟨4,a2,a3,a4,a5,a6,a7,a8,a9,a10,a11,a12,a13,a14,a15⟩:aC)=(((dT N [a6,a11]).bind fun r15 =>
    ((bif r15 then eT N [a9] else some default).bind fun r16 =>
    (bif (r15&&r16) then
    ((bif (r15&&r16) then dT N (a10.toList) else some default).bind fun r17 =>
    ((bif ((r15&&r16)&&r17) then dK N (bZ (⟨4,a2,a3,a4,a5,a6,a7,a8,a9,a10,a11,a12,a13,a14,a15⟩:aC)) (⟨4,a2,a3,a4,a5,a6,a7,a8,a9,a10,a11,a12,a13,a14,a15⟩:aC) else some default).bind fun r18 =>
    ((dN N (((r15&&r16)&&r17)&&r18)).bind fun r19 =>
    (some r19))))
    else
    ((bif false then dK N (bZ (⟨4,a2,a3,a4,a5,a6,a7,a8,a9,a10,a11,a12,a13,a14,a15⟩:aC)) (⟨4,a2,a3,a4,a5,a6,a7,a8,a9,a10,a11,a12,a13,a14,a15⟩:aC) else some default).bind fun r20 =>
    ((dN N false).bind fun r21 =>
    (some r21))))))):=rfl
   rw [hz,hc2,Option.bind_some]
   simp only [hs1,hc8,hs,aKE,cL,Option.bind_some,dE,List.all_cons,List.all_nil,Bool.and_true,cond_false,Bool.false_and]
   by_cases h:(decide (cnt a6)&&decide (cnt a11)&&decide (sit a9))=true
   ·rw [h]
    simp only [cond_true,Bool.true_and]
    refine hm _ ?_
    rw [show eS (⟨4,a2,a3,a4,a5,a6,a7,a8,a9,a10,a11,a12,a13,a14,a15⟩:aC)=(decide (cnt a6)&&decide (sit a9)&&decide (fB a10)&&decide (cnt a11)) from rfl]
    simp only [Bool.and_eq_true] at h
    simp only [Bool.and_eq_true,hsb]
    exact ⟨fun q=>⟨q.2,⟨⟨h.1.1,h.2⟩,q.1⟩,h.1.2⟩,fun q=>⟨q.2.1.2,q.1⟩⟩
   ·rw [Bool.eq_false_iff.2 h]
    simp only [cond_false]
    refine hm _ ?_
    rw [show eS (⟨4,a2,a3,a4,a5,a6,a7,a8,a9,a10,a11,a12,a13,a14,a15⟩:aC)=(decide (cnt a6)&&decide (sit a9)&&decide (fB a10)&&decide (cnt a11)) from rfl]
    simp only [Bool.and_eq_true,Bool.false_eq_true,false_iff] at h ⊢
    exact fun q=>h ⟨⟨q.2.1.1.1,q.2.2⟩,q.2.1.1.2⟩
  ·have hz:gP N (⟨5,a2,a3,a4,a5,a6,a7,a8,a9,a10,a11,a12,a13,a14,a15⟩:aC)=(((jN N a12).bind fun r22 =>
    ((bif r22 then dK N (bZ (⟨5,a2,a3,a4,a5,a6,a7,a8,a9,a10,a11,a12,a13,a14,a15⟩:aC)) (⟨5,a2,a3,a4,a5,a6,a7,a8,a9,a10,a11,a12,a13,a14,a15⟩:aC) else some default).bind fun r23 =>
    ((dN N (r22&&r23)).bind fun r24 =>
    (some r24))))):=rfl
   rw [hz]
   simp only [hs1,hs2,hc1,hc2,hops,hep,hpt,hs,cL,Option.bind_some,dE,List.all_cons,List.all_nil,Bool.and_true]
   refine hm _ ?_
   rw [show eS (⟨5,a2,a3,a4,a5,a6,a7,a8,a9,a10,a11,a12,a13,a14,a15⟩:aC)=(decide (dL a12)) from rfl]
   simp only [Bool.and_eq_true,hsb]
   exact and_comm
  ·have hz:gP N (⟨6,a2,a3,a4,a5,a6,a7,a8,a9,a10,a11,a12,a13,a14,a15⟩:aC)=(((eT N [a13,a14]).bind fun r25 =>
    ((bif r25 then dK N (bZ (⟨6,a2,a3,a4,a5,a6,a7,a8,a9,a10,a11,a12,a13,a14,a15⟩:aC)) (⟨6,a2,a3,a4,a5,a6,a7,a8,a9,a10,a11,a12,a13,a14,a15⟩:aC) else some default).bind fun r26 =>
    ((dN N (r25&&r26)).bind fun r27 =>
    (some r27))))):=rfl
   rw [hz]
   simp only [hs1,hs2,hc1,hc2,hops,hep,hpt,hs,cL,Option.bind_some,dE,List.all_cons,List.all_nil,Bool.and_true]
   refine hm _ ?_
   rw [show eS (⟨6,a2,a3,a4,a5,a6,a7,a8,a9,a10,a11,a12,a13,a14,a15⟩:aC)=(decide (sit a13)&&decide (sit a14)&&decide (cnt a15)) from rfl]
   simp only [Bool.and_eq_true,hsb]
   refine ⟨fun q=>⟨q.2,q.1,?_⟩,fun q=>⟨q.2.1,q.1⟩⟩
   have:=congrArg aC.Length q.2
   change a15=0 at this
   subst this; exact decide_eq_true ⟨by decide,by decide⟩
  ·have hz:gP N (⟨7,a2,a3,a4,a5,a6,a7,a8,a9,a10,a11,a12,a13,a14,a15⟩:aC)=(((eT N [a13]).bind fun r28 =>
    ((bif r28 then dK N (bZ (⟨7,a2,a3,a4,a5,a6,a7,a8,a9,a10,a11,a12,a13,a14,a15⟩:aC)) (⟨7,a2,a3,a4,a5,a6,a7,a8,a9,a10,a11,a12,a13,a14,a15⟩:aC) else some default).bind fun r29 =>
    ((dN N (r28&&r29)).bind fun r30 =>
    (some r30))))):=rfl
   rw [hz]
   simp only [hs1,hs2,hc1,hc2,hops,hep,hpt,hs,cL,Option.bind_some,dE,List.all_cons,List.all_nil,Bool.and_true]
   refine hm _ ?_
   rw [show eS (⟨7,a2,a3,a4,a5,a6,a7,a8,a9,a10,a11,a12,a13,a14,a15⟩:aC)=(decide (sit a13)&&decide (sit a14)&&decide (cnt a15)) from rfl]
   simp only [Bool.and_eq_true,hsb]
   refine ⟨fun q=>⟨q.2,⟨q.1,?_⟩,?_⟩,fun q=>⟨q.2.1.1,q.1⟩⟩
   ·have:=congrArg aC.Sponsor q.2
    change a14=0 at this
    subst this; exact decide_eq_true ⟨by decide,by decide⟩
   ·have:=congrArg aC.Length q.2
    change a15=0 at this
    subst this; exact decide_eq_true ⟨by decide,by decide⟩
  ·have hz:gP N (⟨8,a2,a3,a4,a5,a6,a7,a8,a9,a10,a11,a12,a13,a14,a15⟩:aC)=(((eT N [a13]).bind fun r31 =>
    ((bif r31 then dT N [a15] else some default).bind fun r32 =>
    ((bif (r31&&r32) then dK N (bZ (⟨8,a2,a3,a4,a5,a6,a7,a8,a9,a10,a11,a12,a13,a14,a15⟩:aC)) (⟨8,a2,a3,a4,a5,a6,a7,a8,a9,a10,a11,a12,a13,a14,a15⟩:aC) else some default).bind fun r33 =>
    ((dN N ((r31&&r32)&&r33)).bind fun r34 =>
    (some r34)))))):=rfl
   rw [hz]
   simp only [hs1,hs2,hc1,hc2,hops,hep,hpt,hs,cL,Option.bind_some,dE,List.all_cons,List.all_nil,Bool.and_true]
   refine hm _ ?_
   rw [show eS (⟨8,a2,a3,a4,a5,a6,a7,a8,a9,a10,a11,a12,a13,a14,a15⟩:aC)=(decide (sit a13)&&decide (sit a14)&&decide (cnt a15)) from rfl]
   simp only [Bool.and_eq_true,hsb]
   refine ⟨fun q=>⟨q.2,⟨q.1.1,?_⟩,q.1.2⟩,fun q=>⟨⟨q.2.1.1,q.2.2⟩,q.1⟩⟩
   have:=congrArg aC.Sponsor q.2
   change a14=0 at this
   subst this; exact decide_eq_true ⟨by decide,by decide⟩
 ·refine Or.inr ⟨fun h=>hk h.1,?_⟩
  have hne:∀ k:Int,0≤k→k≤8→(e.Kind==k)=false:=fun k h0 h8=>by
   refine beq_eq_false_iff_ne.2 fun h=>hk ?_
   unfold jZ; omega
  unfold gP
  rw [hne 0 (by decide) (by decide),hne 1 (by decide) (by decide),hne 2 (by decide) (by decide),hne 3 (by decide) (by decide),hne 4 (by decide) (by decide),hne 5 (by decide) (by decide),hne 6 (by decide) (by decide),hne 7 (by decide) (by decide),hne 8 (by decide) (by decide)]
  rfl
end
def VerB (P:Prop) (o:Option Bool):Prop:=(P∧o=some true)∨(¬ P∧o=some false)
theorem oL {P:Prop} {b:Bool} (h:b=true↔P):VerB P (some b):=by
 cases b with
 | true=>exact .inl ⟨h.1 rfl,rfl⟩
 | false=>exact .inr ⟨fun hp=>(by cases h.2 hp),rfl⟩
section
variable {N:Nat}
theorem kX (n:Int):cE N n=some (decide (cnt n)):=by
 unfold cE
 exact congrArg some (jY (by unfold cnt; simp only [Bool.and_eq_true,decide_eq_true_eq]))
theorem nE (n:Int):dA N n=some (decide (sit n)):=by
 unfold dA
 exact congrArg some (jY (by unfold sit; simp only [Bool.and_eq_true,decide_eq_true_eq]))
theorem aYc {e:aC} (hN:e.Ops.length+20≤N) (hl:e.Ops.length≤9223372036854775807) (hb:byt e.Part.Data):VerB (nD e) (gU N e):=by
 have hs:gT N e (bZ e)=some (fC e (bZ e)):=aKC (by omega) (by omega)
 have hsb:fC e (bZ e)=true↔e=bZ e:=aAK hb (aKG hb)
 have hops:=aO9 (N:=N) (l:=e.Ops) (by omega) hl
 have hep:=fun x=>aPb (N:=N) (by omega) x
 have hvec:=fun x=>aKF (N:=N) (by omega) x
 have hpt:=fun x=>aPd (N:=N) x
 have hmo:=fun x=>aO0 (N:=N) x
 by_cases hk:jZ e
 ·have hk9:e.Kind=0∨e.Kind=1∨e.Kind=2∨e.Kind=3∨e.Kind=4∨e.Kind=5∨e.Kind=6∨e.Kind=7∨e.Kind=8:=by unfold jZ at hk; omega
  obtain ⟨kd,a2,a3,a4,a5,a6,a7,a8,a9,a10,a11,a12,a13,a14,a15⟩:=e
  simp only at hk9
  rcases hk9 with rfl | rfl | rfl | rfl | rfl | rfl | rfl | rfl | rfl
  ·have hz:gU N (⟨0,a2,a3,a4,a5,a6,a7,a8,a9,a10,a11,a12,a13,a14,a15⟩:aC)=((gT N (⟨0,a2,a3,a4,a5,a6,a7,a8,a9,a10,a11,a12,a13,a14,a15⟩:aC) (bZ ⟨0,a2,a3,a4,a5,a6,a7,a8,a9,a10,a11,a12,a13,a14,a15⟩)).bind fun r2=>bif (!r2) then some false else ((dA N a13).bind fun r15 =>
     ((bif r15 then dA N a14 else some default).bind fun r16 =>
     ((bif (r15&&r16) then cE N a15 else some default).bind fun r17 =>
     (some ((r15&&r16)&&r17)))))):=rfl
   have hz2:((dA N a13).bind fun r15 =>
     ((bif r15 then dA N a14 else some default).bind fun r16 =>
     ((bif (r15&&r16) then cE N a15 else some default).bind fun r17 =>
     (some ((r15&&r16)&&r17)))))=some (eS (⟨0,a2,a3,a4,a5,a6,a7,a8,a9,a10,a11,a12,a13,a14,a15⟩:aC)):=by
    simp only [kX,nE,hops,hep,hvec,hpt,hmo,cL,Option.bind_some,dE]
    rfl
   rw [hz,hs,Option.bind_some,hz2]
   cases hc:fC (⟨0,a2,a3,a4,a5,a6,a7,a8,a9,a10,a11,a12,a13,a14,a15⟩:aC) (bZ ⟨0,a2,a3,a4,a5,a6,a7,a8,a9,a10,a11,a12,a13,a14,a15⟩) with
   | true=>exact oL ⟨fun h=>⟨hk,hsb.1 hc,h⟩,fun h=>h.2.2⟩
   | false=>exact .inr ⟨fun h=>(by rw [hsb.2 h.2.1] at hc; cases hc),rfl⟩
  ·have hz:gU N (⟨1,a2,a3,a4,a5,a6,a7,a8,a9,a10,a11,a12,a13,a14,a15⟩:aC)=((gT N (⟨1,a2,a3,a4,a5,a6,a7,a8,a9,a10,a11,a12,a13,a14,a15⟩:aC) (bZ ⟨1,a2,a3,a4,a5,a6,a7,a8,a9,a10,a11,a12,a13,a14,a15⟩)).bind fun r2=>bif (!r2) then some false else ((cE N a2).bind fun r3 =>
     ((bif (r3&&(decide (0 < a2))) then cE N a3 else some default).bind fun r4 =>
     ((bif (((r3&&(decide (0 < a2)))&&r4)&&(decide (0 < a3))) then sB N a4 else some default).bind fun r5 =>
     (some ((((r3&&(decide (0 < a2)))&&r4)&&(decide (0 < a3)))&&r5)))))):=rfl
   have hz2:((cE N a2).bind fun r3 =>
     ((bif (r3&&(decide (0 < a2))) then cE N a3 else some default).bind fun r4 =>
     ((bif (((r3&&(decide (0 < a2)))&&r4)&&(decide (0 < a3))) then sB N a4 else some default).bind fun r5 =>
     (some ((((r3&&(decide (0 < a2)))&&r4)&&(decide (0 < a3)))&&r5)))))=some (eS (⟨1,a2,a3,a4,a5,a6,a7,a8,a9,a10,a11,a12,a13,a14,a15⟩:aC)):=by
    simp only [kX,nE,hops,hep,hvec,hpt,hmo,cL,Option.bind_some,dE]
    rfl
   rw [hz,hs,Option.bind_some,hz2]
   cases hc:fC (⟨1,a2,a3,a4,a5,a6,a7,a8,a9,a10,a11,a12,a13,a14,a15⟩:aC) (bZ ⟨1,a2,a3,a4,a5,a6,a7,a8,a9,a10,a11,a12,a13,a14,a15⟩) with
   | true=>exact oL ⟨fun h=>⟨hk,hsb.1 hc,h⟩,fun h=>h.2.2⟩
   | false=>exact .inr ⟨fun h=>(by rw [hsb.2 h.2.1] at hc; cases hc),rfl⟩
  ·have hz:gU N (⟨2,a2,a3,a4,a5,a6,a7,a8,a9,a10,a11,a12,a13,a14,a15⟩:aC)=((gT N (⟨2,a2,a3,a4,a5,a6,a7,a8,a9,a10,a11,a12,a13,a14,a15⟩:aC) (bZ ⟨2,a2,a3,a4,a5,a6,a7,a8,a9,a10,a11,a12,a13,a14,a15⟩)).bind fun r2=>bif (!r2) then some false else ((dA N a5).bind fun r6 =>
     ((bif r6 then cE N a6 else some default).bind fun r7 =>
     ((bif (r6&&r7) then sC N a7 else some default).bind fun r8 =>
     (some ((r6&&r7)&&r8)))))):=rfl
   have hz2:((dA N a5).bind fun r6 =>
     ((bif r6 then cE N a6 else some default).bind fun r7 =>
     ((bif (r6&&r7) then sC N a7 else some default).bind fun r8 =>
     (some ((r6&&r7)&&r8)))))=some (eS (⟨2,a2,a3,a4,a5,a6,a7,a8,a9,a10,a11,a12,a13,a14,a15⟩:aC)):=by
    simp only [kX,nE,hops,hep,hvec,hpt,hmo,cL,Option.bind_some,dE]
    rfl
   rw [hz,hs,Option.bind_some,hz2]
   cases hc:fC (⟨2,a2,a3,a4,a5,a6,a7,a8,a9,a10,a11,a12,a13,a14,a15⟩:aC) (bZ ⟨2,a2,a3,a4,a5,a6,a7,a8,a9,a10,a11,a12,a13,a14,a15⟩) with
   | true=>exact oL ⟨fun h=>⟨hk,hsb.1 hc,h⟩,fun h=>h.2.2⟩
   | false=>exact .inr ⟨fun h=>(by rw [hsb.2 h.2.1] at hc; cases hc),rfl⟩
  ·have hz:gU N (⟨3,a2,a3,a4,a5,a6,a7,a8,a9,a10,a11,a12,a13,a14,a15⟩:aC)=((gT N (⟨3,a2,a3,a4,a5,a6,a7,a8,a9,a10,a11,a12,a13,a14,a15⟩:aC) (bZ ⟨3,a2,a3,a4,a5,a6,a7,a8,a9,a10,a11,a12,a13,a14,a15⟩)).bind fun r2=>bif (!r2) then some false else ((sD N a8).bind fun r9=>(some r9))):=rfl
   have hz2:((sD N a8).bind fun r9=>(some r9))=some (eS (⟨3,a2,a3,a4,a5,a6,a7,a8,a9,a10,a11,a12,a13,a14,a15⟩:aC)):=by
    simp only [kX,nE,hops,hep,hvec,hpt,hmo,cL,Option.bind_some,dE]
    rfl
   rw [hz,hs,Option.bind_some,hz2]
   cases hc:fC (⟨3,a2,a3,a4,a5,a6,a7,a8,a9,a10,a11,a12,a13,a14,a15⟩:aC) (bZ ⟨3,a2,a3,a4,a5,a6,a7,a8,a9,a10,a11,a12,a13,a14,a15⟩) with
   | true=>exact oL ⟨fun h=>⟨hk,hsb.1 hc,h⟩,fun h=>h.2.2⟩
   | false=>exact .inr ⟨fun h=>(by rw [hsb.2 h.2.1] at hc; cases hc),rfl⟩
  ·have hz:gU N (⟨4,a2,a3,a4,a5,a6,a7,a8,a9,a10,a11,a12,a13,a14,a15⟩:aC)=((gT N (⟨4,a2,a3,a4,a5,a6,a7,a8,a9,a10,a11,a12,a13,a14,a15⟩:aC) (bZ ⟨4,a2,a3,a4,a5,a6,a7,a8,a9,a10,a11,a12,a13,a14,a15⟩)).bind fun r2=>bif (!r2) then some false else ((cE N a6).bind fun r10 =>
     ((bif r10 then dA N a9 else some default).bind fun r11 =>
     ((bif (r10&&r11) then pR N a10 else some default).bind fun r12 =>
     ((bif ((r10&&r11)&&r12) then cE N a11 else some default).bind fun r13 =>
     (some (((r10&&r11)&&r12)&&r13))))))):=rfl
   have hz2:((cE N a6).bind fun r10 =>
     ((bif r10 then dA N a9 else some default).bind fun r11 =>
     ((bif (r10&&r11) then pR N a10 else some default).bind fun r12 =>
     ((bif ((r10&&r11)&&r12) then cE N a11 else some default).bind fun r13 =>
     (some (((r10&&r11)&&r12)&&r13))))))=some (eS (⟨4,a2,a3,a4,a5,a6,a7,a8,a9,a10,a11,a12,a13,a14,a15⟩:aC)):=by
    simp only [kX,nE,hops,hep,hvec,hpt,hmo,cL,Option.bind_some,dE]
    rfl
   rw [hz,hs,Option.bind_some,hz2]
   cases hc:fC (⟨4,a2,a3,a4,a5,a6,a7,a8,a9,a10,a11,a12,a13,a14,a15⟩:aC) (bZ ⟨4,a2,a3,a4,a5,a6,a7,a8,a9,a10,a11,a12,a13,a14,a15⟩) with
   | true=>exact oL ⟨fun h=>⟨hk,hsb.1 hc,h⟩,fun h=>h.2.2⟩
   | false=>exact .inr ⟨fun h=>(by rw [hsb.2 h.2.1] at hc; cases hc),rfl⟩
  ·have hz:gU N (⟨5,a2,a3,a4,a5,a6,a7,a8,a9,a10,a11,a12,a13,a14,a15⟩:aC)=((gT N (⟨5,a2,a3,a4,a5,a6,a7,a8,a9,a10,a11,a12,a13,a14,a15⟩:aC) (bZ ⟨5,a2,a3,a4,a5,a6,a7,a8,a9,a10,a11,a12,a13,a14,a15⟩)).bind fun r2=>bif (!r2) then some false else ((pS N a12).bind fun r14=>(some r14))):=rfl
   have hz2:((pS N a12).bind fun r14=>(some r14))=some (eS (⟨5,a2,a3,a4,a5,a6,a7,a8,a9,a10,a11,a12,a13,a14,a15⟩:aC)):=by
    simp only [kX,nE,hops,hep,hvec,hpt,hmo,cL,Option.bind_some,dE]
    rfl
   rw [hz,hs,Option.bind_some,hz2]
   cases hc:fC (⟨5,a2,a3,a4,a5,a6,a7,a8,a9,a10,a11,a12,a13,a14,a15⟩:aC) (bZ ⟨5,a2,a3,a4,a5,a6,a7,a8,a9,a10,a11,a12,a13,a14,a15⟩) with
   | true=>exact oL ⟨fun h=>⟨hk,hsb.1 hc,h⟩,fun h=>h.2.2⟩
   | false=>exact .inr ⟨fun h=>(by rw [hsb.2 h.2.1] at hc; cases hc),rfl⟩
  ·have hz:gU N (⟨6,a2,a3,a4,a5,a6,a7,a8,a9,a10,a11,a12,a13,a14,a15⟩:aC)=((gT N (⟨6,a2,a3,a4,a5,a6,a7,a8,a9,a10,a11,a12,a13,a14,a15⟩:aC) (bZ ⟨6,a2,a3,a4,a5,a6,a7,a8,a9,a10,a11,a12,a13,a14,a15⟩)).bind fun r2=>bif (!r2) then some false else ((dA N a13).bind fun r15 =>
     ((bif r15 then dA N a14 else some default).bind fun r16 =>
     ((bif (r15&&r16) then cE N a15 else some default).bind fun r17 =>
     (some ((r15&&r16)&&r17)))))):=rfl
   have hz2:((dA N a13).bind fun r15 =>
     ((bif r15 then dA N a14 else some default).bind fun r16 =>
     ((bif (r15&&r16) then cE N a15 else some default).bind fun r17 =>
     (some ((r15&&r16)&&r17)))))=some (eS (⟨6,a2,a3,a4,a5,a6,a7,a8,a9,a10,a11,a12,a13,a14,a15⟩:aC)):=by
    simp only [kX,nE,hops,hep,hvec,hpt,hmo,cL,Option.bind_some,dE]
    rfl
   rw [hz,hs,Option.bind_some,hz2]
   cases hc:fC (⟨6,a2,a3,a4,a5,a6,a7,a8,a9,a10,a11,a12,a13,a14,a15⟩:aC) (bZ ⟨6,a2,a3,a4,a5,a6,a7,a8,a9,a10,a11,a12,a13,a14,a15⟩) with
   | true=>exact oL ⟨fun h=>⟨hk,hsb.1 hc,h⟩,fun h=>h.2.2⟩
   | false=>exact .inr ⟨fun h=>(by rw [hsb.2 h.2.1] at hc; cases hc),rfl⟩
  ·have hz:gU N (⟨7,a2,a3,a4,a5,a6,a7,a8,a9,a10,a11,a12,a13,a14,a15⟩:aC)=((gT N (⟨7,a2,a3,a4,a5,a6,a7,a8,a9,a10,a11,a12,a13,a14,a15⟩:aC) (bZ ⟨7,a2,a3,a4,a5,a6,a7,a8,a9,a10,a11,a12,a13,a14,a15⟩)).bind fun r2=>bif (!r2) then some false else ((dA N a13).bind fun r15 =>
     ((bif r15 then dA N a14 else some default).bind fun r16 =>
     ((bif (r15&&r16) then cE N a15 else some default).bind fun r17 =>
     (some ((r15&&r16)&&r17)))))):=rfl
   have hz2:((dA N a13).bind fun r15 =>
     ((bif r15 then dA N a14 else some default).bind fun r16 =>
     ((bif (r15&&r16) then cE N a15 else some default).bind fun r17 =>
     (some ((r15&&r16)&&r17)))))=some (eS (⟨7,a2,a3,a4,a5,a6,a7,a8,a9,a10,a11,a12,a13,a14,a15⟩:aC)):=by
    simp only [kX,nE,hops,hep,hvec,hpt,hmo,cL,Option.bind_some,dE]
    rfl
   rw [hz,hs,Option.bind_some,hz2]
   cases hc:fC (⟨7,a2,a3,a4,a5,a6,a7,a8,a9,a10,a11,a12,a13,a14,a15⟩:aC) (bZ ⟨7,a2,a3,a4,a5,a6,a7,a8,a9,a10,a11,a12,a13,a14,a15⟩) with
   | true=>exact oL ⟨fun h=>⟨hk,hsb.1 hc,h⟩,fun h=>h.2.2⟩
   | false=>exact .inr ⟨fun h=>(by rw [hsb.2 h.2.1] at hc; cases hc),rfl⟩
  ·have hz:gU N (⟨8,a2,a3,a4,a5,a6,a7,a8,a9,a10,a11,a12,a13,a14,a15⟩:aC)=((gT N (⟨8,a2,a3,a4,a5,a6,a7,a8,a9,a10,a11,a12,a13,a14,a15⟩:aC) (bZ ⟨8,a2,a3,a4,a5,a6,a7,a8,a9,a10,a11,a12,a13,a14,a15⟩)).bind fun r2=>bif (!r2) then some false else ((dA N a13).bind fun r15 =>
     ((bif r15 then dA N a14 else some default).bind fun r16 =>
     ((bif (r15&&r16) then cE N a15 else some default).bind fun r17 =>
     (some ((r15&&r16)&&r17)))))):=rfl
   have hz2:((dA N a13).bind fun r15 =>
     ((bif r15 then dA N a14 else some default).bind fun r16 =>
     ((bif (r15&&r16) then cE N a15 else some default).bind fun r17 =>
     (some ((r15&&r16)&&r17)))))=some (eS (⟨8,a2,a3,a4,a5,a6,a7,a8,a9,a10,a11,a12,a13,a14,a15⟩:aC)):=by
    simp only [kX,nE,hops,hep,hvec,hpt,hmo,cL,Option.bind_some,dE]
    rfl
   rw [hz,hs,Option.bind_some,hz2]
   cases hc:fC (⟨8,a2,a3,a4,a5,a6,a7,a8,a9,a10,a11,a12,a13,a14,a15⟩:aC) (bZ ⟨8,a2,a3,a4,a5,a6,a7,a8,a9,a10,a11,a12,a13,a14,a15⟩) with
   | true=>exact oL ⟨fun h=>⟨hk,hsb.1 hc,h⟩,fun h=>h.2.2⟩
   | false=>exact .inr ⟨fun h=>(by rw [hsb.2 h.2.1] at hc; cases hc),rfl⟩
 ·refine Or.inr ⟨fun h=>hk h.1,?_⟩
  have hne:∀ k:Int,0≤k→k≤8→(e.Kind==k)=false:=fun k h0 h8=>by
   refine beq_eq_false_iff_ne.2 fun h=>hk ?_
   unfold jZ; omega
  unfold gU aIk
  rw [hne 0 (by decide) (by decide),hne 1 (by decide) (by decide),hne 2 (by decide) (by decide),hne 3 (by decide) (by decide),hne 4 (by decide) (by decide),hne 5 (by decide) (by decide),hne 6 (by decide) (by decide),hne 7 (by decide) (by decide),hne 8 (by decide) (by decide)]
  rfl
end
theorem bA {n:Int} (h:cnt n):R64 n:=⟨by have:=h.1; omega,by have:=h.2; omega⟩
theorem dI {n:Int} (h:sit n):R64 n:=⟨by have:=h.1; omega,by have:=h.2; omega⟩
def epC (e:aD):List (List Int):=[e.Number].map pI++e.States.toList.map pI++e.Seals.toList.map pI++e.Sponsor.toList.map pI
def ptC (p:aE):List (List Int):=[p.Snap].map pI++[p.Index,p.Many].map pI++[pB p.Data]
def gG (l:List GOp):List (List Int):=[(l.length:Int)].map pI++(l.map opC).flatten
def gH (e:aC):List (List Int) :=
 bif e.Kind==1 then [e.Session,e.Request].map pI++opC e.Op else
 bif e.Kind==2 then [e.Origin].map pI++[e.Seq].map pI++gG e.Ops else
 bif e.Kind==3 then epC e.Epoch else
 bif e.Kind==4 then [e.Seq].map pI++[e.From].map pI++e.Vector_.toList.map pI++[e.Clock].map pI else
 bif e.Kind==5 then ptC e.Part else
 bif e.Kind==6 then [e.Site,e.Sponsor].map pI else
 bif e.Kind==7 then [e.Site].map pI else
 bif e.Kind==8 then [e.Site].map pI++[e.Length].map pI else []
def enC (e:aC):List (List Int):=[e.Kind].map pI++gH e
def enB (e:aC):List Int:=(enC e).flatten
section
variable {N:Nat} {e0:Int} {w:List Int}
theorem cV (e:Int) (w:List Int) (cs:List (List Int)):(wr e w cs).2.1=true:=rfl
theorem fN (hN:20≤N) {a:Int} (ha:R64 a) (hw:w.length≤1048576):bN N [a] e0 true w=some (wr e0 w ([a].map pI)) :=
 aAJ (by omega) (by simp; omega) (by simp) (by intro n hn; simp at hn; subst hn; exact ha) hw
theorem ints2 (hN:20≤N) {a b:Int} (ha:R64 a) (hb:R64 b) (hw:w.length≤1048576):bN N [a,b] e0 true w=some (wr e0 w ([a,b].map pI)) :=
 aAJ (by omega) (by simp; omega) (by simp) (by intro n hn; simp at hn; rcases hn with rfl | rfl<;>assumption) hw
theorem nF (hN:20≤N) {a:Int} (ha:R64 a) (hw:w.length≤1048576):dU N [a] e0 true w=some (wr e0 w ([a].map pI)) :=
 aDI (by omega) (by simp; omega) (by simp) (by intro n hn; simp at hn; subst hn; exact ha) hw
theorem aKH (hN:20≤N) {a b:Int} (ha:R64 a) (hb:R64 b) (hw:w.length≤1048576):dU N [a,b] e0 true w=some (wr e0 w ([a,b].map pI)) :=
 aDI (by omega) (by simp; omega) (by simp) (by intro n hn; simp at hn; rcases hn with rfl | rfl<;>assumption) hw
theorem aDJ (hN:20≤N) {v:Vector Int 8} (hv:∀ n∈v.toList,R64 n) (hw:w.length≤1048576):bN N v.toList e0 true w=some (wr e0 w (v.toList.map pI)) :=
 aAJ (by omega) (by simp; omega) (by simp) hv hw
theorem aPf (hN:20≤N) {v:Vector Int 8} (hv:∀ n∈v.toList,R64 n) (hw:w.length≤1048576):dU N v.toList e0 true w=some (wr e0 w (v.toList.map pI)) :=
 aDI (by omega) (by simp; omega) (by simp) hv hw
theorem aDK {e:aD} (h:eC e):(∀ n∈e.States.toList,R64 n)∧(∀ n∈e.Sponsor.toList,R64 n)∧∀ n∈e.Seals.toList,R64 n:=by
 refine ⟨fun n hn=>?_,fun n hn=>?_,fun n hn=>bA (h.2.1 n hn)⟩
 ·obtain ⟨j,hj,rfl⟩:=List.getElem_of_mem hn
  have hj8:j < 8:=by simpa using hj
  have:=(h.2.2 j hj8).1
  rw [aAD e.States default hj8] at this
  have e1:e.States.toList[j]=e.States[j]:=by simp
  rw [e1]; exact ⟨by omega,by omega⟩
 ·obtain ⟨j,hj,rfl⟩:=List.getElem_of_mem hn
  have hj8:j < 8:=by simpa using hj
  have:=(h.2.2 j hj8).2
  rw [aAD e.Sponsor default hj8] at this
  have e1:e.Sponsor.toList[j]=e.Sponsor[j]:=by simp
  rw [e1]; exact ⟨by omega,by omega⟩
theorem aPg (hN:20≤N) {e:aD} (h:eC e) (hw:w.length≤1048576):rR N e e0 true w=some (wr e0 w (epC e)):=by
 obtain ⟨h1,h2,h3⟩:=aDK h
 unfold rR
 rw [fN hN (bA h.1) hw,Option.bind_some,cV,aPf hN h1 (bL hw _),bJ,Option.bind_some,cV,aDJ hN h3 (bL hw _),bJ,Option.bind_some,cV,aPf hN h2 (bL hw _),bJ,Option.bind_some]
 rfl
theorem aKI (hN:20≤N) {p:aE} (h:dL p) (hw:w.length≤1048576):mK N p e0 true w=some (wr e0 w (ptC p)):=by
 obtain ⟨h1,⟨h2,h3⟩,⟨h4,h5⟩,h6⟩:=h
 unfold mK
 rw [fN hN (bA h1) hw,Option.bind_some,cV,aKH hN ⟨by omega,by omega⟩ ⟨by omega,by omega⟩ (bL hw _),bJ,Option.bind_some,cV,aOO (by omega) (by omega) (bL hw _),Option.bind_some,aDH,bJ,Option.bind_some]
 rfl
theorem aPh {l:List GOp} (hN:l.length+20≤N) (h:eR l) (hw:w.length≤1048576):rQ N l e0 true w=some (wr e0 w (gG l)):=by
 obtain ⟨h1,h2,h3⟩:=h
 unfold rQ
 rw [nF (by omega) ⟨by omega,by omega⟩ hw,Option.bind_some]
 refine cH (fun q:uU=>0≤q.t13∧q.t13≤(l.length:Int)∧q.b1=true∧q.b12.length≤1048576∧wr q.b0 q.b12 ((l.drop q.t13.toNat).map opC).flatten=wr e0 w (gG l)) (fun q=>((l.length:Int) - q.t13).toNat) ?_ N _ ⟨by simp,by simp,rfl,bL hw _,?_⟩ (by simp; omega)
 ·rintro ⟨i,b0,b1,b12⟩ nx ⟨g0,g1,rfl,g3,hq⟩ ih
  simp only at g0 g1 g3 hq ih ⊢
  by_cases hi:i < l.length
  ·have hm:=h3 _ (fJ (default:GOp) g0 hi)
   rw [cK (default:GOp) g0 hi,List.map_cons,List.flatten_cons,← bJ] at hq
   simp only [decide_eq_true hi,bV g0 hi,cond_true]
   change (uT N (aA l i default) b0 true b12).bind _=_
   rw [aOY (by omega) hm g3,Option.bind_some,bH (by omega) (by omega)]
   exact ih ⟨i+1,_,_,_⟩ ⟨by simp; omega,by simp; omega,rfl,bL g3 _,hq⟩ (by simp; omega)
  ·have:decide (i < (l.length:Int))=false:=by simpa using hi
   simp only [this,cond_false]
   rw [List.drop_eq_nil_of_le (by omega)] at hq
   rw [← hq]; rfl
 ·simp only
  rw [bJ]; simp [gG]
theorem aPi {e:aC} (hN:e.Ops.length+20≤N) (h:nD e) (hw:w.length≤1048576):pJ N e e0 true w=some (wr e0 w (enC e)):=by
 obtain ⟨hk,_,hc⟩:=h
 have hk9:e.Kind=0∨e.Kind=1∨e.Kind=2∨e.Kind=3∨e.Kind=4∨e.Kind=5∨e.Kind=6∨e.Kind=7∨e.Kind=8:=by unfold jZ at hk; omega
 obtain ⟨kd,a2,a3,a4,a5,a6,a7,a8,a9,a10,a11,a12,a13,a14,a15⟩:=e
 simp only at hk9 hN
 have h1:dU N [kd] e0 true w=some (wr e0 w ([kd].map pI)):=nF (by omega) ⟨by omega,by omega⟩ hw
 have hw1:(wr e0 w ([kd].map pI)).2.2.length≤1048576:=bL hw _
 have hc0:∀ cs,wr (wr e0 w ([kd].map pI)).1 (wr e0 w ([kd].map pI)).2.2 cs=wr e0 w ([kd].map pI++cs):=fun cs=>bJ _ _ _ _
 have hN':20≤N:=by omega
 unfold pJ
 simp only
 rw [h1,Option.bind_some,cV]
 rcases hk9 with rfl | rfl | rfl | rfl | rfl | rfl | rfl | rfl | rfl
 ·show some ((wr e0 w ([(0:Int)].map pI)).1,(wr e0 w ([(0:Int)].map pI)).2.1,(wr e0 w ([(0:Int)].map pI)).2.2)=some (wr e0 w ([(0:Int)].map pI++[]))
  rw [List.append_nil]
 ·replace hc:(decide (cnt a2)&&decide (0 < a2)&&decide (cnt a3)&&decide (0 < a3)&&decide (dH a4))=true:=hc
  simp only [Bool.and_eq_true,decide_eq_true_eq] at hc
  obtain ⟨⟨⟨⟨c1,_⟩,c2⟩,_⟩,c3⟩:=hc
  simp only [Int.reduceBEq,cond_true,cond_false]
  rw [ints2 hN' (bA c1) (bA c2) hw1,bJ,Option.bind_some,cV,aOY hN' c3 (bL hw _),bJ,Option.bind_some]
  show some (wr e0 w _)=some (wr e0 w _)
  simp only [enC,gH,Int.reduceBEq,cond_true,cond_false,List.append_assoc]
 ·replace hc:(decide (sit a5)&&decide (cnt a6)&&decide (eR a7))=true:=hc
  simp only [Bool.and_eq_true,decide_eq_true_eq] at hc
  obtain ⟨⟨c1,c2⟩,c3⟩:=hc
  simp only [Int.reduceBEq,cond_true,cond_false]
  rw [nF hN' (dI c1) hw1,bJ,Option.bind_some,cV,fN hN' (bA c2) (bL hw _),bJ,Option.bind_some,cV,aPh hN c3 (bL hw _),bJ,Option.bind_some]
  show some (wr e0 w _)=some (wr e0 w _)
  simp only [enC,gH,Int.reduceBEq,cond_true,cond_false,List.append_assoc]
 ·replace hc:(decide (eC a8))=true:=hc
  simp only [Bool.and_eq_true,decide_eq_true_eq] at hc
  have c1:=hc
  simp only [Int.reduceBEq,cond_true,cond_false]
  rw [aPg hN' c1 hw1,bJ,Option.bind_some]
  show some (wr e0 w _)=some (wr e0 w _)
  simp only [enC,gH,Int.reduceBEq,cond_true,cond_false,List.append_assoc]
 ·replace hc:(decide (cnt a6)&&decide (sit a9)&&decide (fB a10)&&decide (cnt a11))=true:=hc
  simp only [Bool.and_eq_true,decide_eq_true_eq] at hc
  obtain ⟨⟨⟨c1,c2⟩,c3⟩,c4⟩:=hc
  simp only [Int.reduceBEq,cond_true,cond_false]
  rw [fN hN' (bA c1) hw1,bJ,Option.bind_some,cV,nF hN' (dI c2) (bL hw _),bJ,Option.bind_some,cV,aDJ hN' (fun n hn=>bA (c3 n hn)) (bL hw _),bJ,Option.bind_some,cV,fN hN' (bA c4) (bL hw _),bJ,Option.bind_some]
  show some (wr e0 w _)=some (wr e0 w _)
  simp only [enC,gH,Int.reduceBEq,cond_true,cond_false,List.append_assoc]
 ·replace hc:(decide (dL a12))=true:=hc
  simp only [Bool.and_eq_true,decide_eq_true_eq] at hc
  have c1:=hc
  simp only [Int.reduceBEq,cond_true,cond_false]
  rw [aKI hN' c1 hw1,bJ,Option.bind_some]
  show some (wr e0 w _)=some (wr e0 w _)
  simp only [enC,gH,Int.reduceBEq,cond_true,cond_false,List.append_assoc]
 ·replace hc:(decide (sit a13)&&decide (sit a14)&&decide (cnt a15))=true:=hc
  simp only [Bool.and_eq_true,decide_eq_true_eq] at hc
  obtain ⟨⟨c1,c2⟩,c3⟩:=hc
  simp only [Int.reduceBEq,cond_true,cond_false]
  rw [aKH hN' (dI c1) (dI c2) hw1,bJ,Option.bind_some]
  show some (wr e0 w _)=some (wr e0 w _)
  simp only [enC,gH,Int.reduceBEq,cond_true,cond_false,List.append_assoc]
 ·replace hc:(decide (sit a13)&&decide (sit a14)&&decide (cnt a15))=true:=hc
  simp only [Bool.and_eq_true,decide_eq_true_eq] at hc
  obtain ⟨⟨c1,c2⟩,c3⟩:=hc
  simp only [Int.reduceBEq,cond_true,cond_false]
  rw [nF hN' (dI c1) hw1,bJ,Option.bind_some]
  show some (wr e0 w _)=some (wr e0 w _)
  simp only [enC,gH,Int.reduceBEq,cond_true,cond_false,List.append_assoc]
 ·replace hc:(decide (sit a13)&&decide (sit a14)&&decide (cnt a15))=true:=hc
  simp only [Bool.and_eq_true,decide_eq_true_eq] at hc
  obtain ⟨⟨c1,c2⟩,c3⟩:=hc
  simp only [Int.reduceBEq,cond_true,cond_false]
  rw [nF hN' (dI c1) hw1,bJ,Option.bind_some,cV,fN hN' (bA c3) (bL hw _),bJ,Option.bind_some]
  show some (wr e0 w _)=some (wr e0 w _)
  simp only [enC,gH,Int.reduceBEq,cond_true,cond_false,List.append_assoc]
end
theorem aKJ {n:Int} (h:R64 n):byt (pI n):=by
 intro x hx
 exact aOz 9 (zig n) (Nat.lt_trans (jF h) (by decide)) x hx
def CB (cs:List (List Int)):Prop:=∀ c∈cs,byt c
theorem CB.append {a b:List (List Int)} (ha:CB a) (hb:CB b):CB (a++b):=fun c hc=>(List.mem_append.1 hc).elim (ha c) (hb c)
theorem CB.flat {cs:List (List Int)} (h:CB cs):byt cs.flatten:=fun x hx=>by
 obtain ⟨c,hc,hx⟩:=List.mem_flatten.1 hx
 exact h c hc x hx
theorem CB.nil:CB []:=fun c hc=>by cases hc
theorem CB.ints {l:List Int} (h:∀ n∈l,R64 n):CB (l.map pI):=fun c hc=>by
 obtain ⟨n,hn,rfl⟩:=List.mem_map.1 hc
 exact aKJ (h n hn)
theorem CB.int1 {a:Int} (ha:R64 a):CB ([a].map pI):=CB.ints (by intro n hn; simp at hn; subst hn; exact ha)
theorem CB.int2 {a b:Int} (ha:R64 a) (hb:R64 b):CB ([a,b].map pI):=CB.ints (by intro n hn; simp at hn; rcases hn with rfl | rfl<;>assumption)
theorem aPj {l:List Int} (hl:l.length≤1048576) (h:byt l):byt (pB l):=fun x hx=>by
 unfold pB at hx
 rcases List.mem_append.1 hx with hx | hx
 ·exact aKJ (n:=(l.length:Int)) ⟨by omega,by omega⟩ x hx
 ·exact h x hx
theorem aYd (s:List UInt8):byt (jU s):=fun x hx=>by
 unfold jU at hx
 obtain ⟨b,_,rfl⟩:=List.mem_map.1 hx
 have:=b.toNat_lt
 exact ⟨by omega,by omega⟩
theorem CB.texts {l:List (List UInt8)} (h:∀ s∈l,s.length≤1048576):CB (l.map pT):=fun c hc=>by
 obtain ⟨s,hs,rfl⟩:=List.mem_map.1 hc
 exact aPj (by rw [aAI]; exact h s hs) (aYd s)
theorem CB.op {o:GOp} (h:dH o):CB (opC o):=by
 obtain ⟨h1,h2,h3,h4,h5,h6,h7,h8⟩:=h
 exact (((CB.int1 ⟨by omega,by omega⟩).append (CB.int2 ⟨by omega,by omega⟩ ⟨by omega,by omega⟩)).append (CB.int2 ⟨by omega,by omega⟩ ⟨by omega,by omega⟩)).append (CB.texts (by intro s hs; simp at hs; rcases hs with rfl | rfl | rfl<;>omega))
theorem CB.ops {l:List GOp} (h:eR l):CB (gG l) :=
 (CB.int1 ⟨by omega,by have:=h.2.1; omega⟩).append fun c hc=>by
  obtain ⟨cs,hcs,hc⟩:=List.mem_flatten.1 hc
  obtain ⟨o,ho,rfl⟩:=List.mem_map.1 hcs
  exact CB.op (h.2.2 o ho) c hc
theorem CB.ep {e:aD} (h:eC e):CB (epC e):=by
 obtain ⟨h1,h2,h3⟩:=aDK h
 exact (((CB.int1 (bA h.1)).append (CB.ints h1)).append (CB.ints h3)).append (CB.ints h2)
theorem CB.pt {p:aE} (h:dL p) (hb:byt p.Data):CB (ptC p):=by
 obtain ⟨h1,⟨h2,h3⟩,⟨h4,h5⟩,h6⟩:=h
 exact ((CB.int1 (bA h1)).append (CB.int2 ⟨by omega,by omega⟩ ⟨by omega,by omega⟩)).append (fun c hc=>by simp at hc; subst hc; exact aPj (by omega) hb)
theorem CB.en {e:aC} (h:nD e) (hb:byt e.Part.Data):CB (enC e):=by
 obtain ⟨hk,_,hc⟩:=h
 have hk9:e.Kind=0∨e.Kind=1∨e.Kind=2∨e.Kind=3∨e.Kind=4∨e.Kind=5∨e.Kind=6∨e.Kind=7∨e.Kind=8:=by unfold jZ at hk; omega
 obtain ⟨kd,a2,a3,a4,a5,a6,a7,a8,a9,a10,a11,a12,a13,a14,a15⟩:=e
 simp only at hk9
 refine (CB.int1 (a:=kd) ⟨by omega,by omega⟩).append ?_
 rcases hk9 with rfl | rfl | rfl | rfl | rfl | rfl | rfl | rfl | rfl
 ·replace hc:(decide (sit a13)&&decide (sit a14)&&decide (cnt a15))=true:=hc
  simp only [Bool.and_eq_true,decide_eq_true_eq] at hc
  obtain ⟨⟨c1,c2⟩,c3⟩:=hc
  exact CB.nil
 ·replace hc:(decide (cnt a2)&&decide (0 < a2)&&decide (cnt a3)&&decide (0 < a3)&&decide (dH a4))=true:=hc
  simp only [Bool.and_eq_true,decide_eq_true_eq] at hc
  obtain ⟨⟨⟨⟨c1,_⟩,c2⟩,_⟩,c3⟩:=hc
  exact (CB.int2 (bA c1) (bA c2)).append (CB.op c3)
 ·replace hc:(decide (sit a5)&&decide (cnt a6)&&decide (eR a7))=true:=hc
  simp only [Bool.and_eq_true,decide_eq_true_eq] at hc
  obtain ⟨⟨c1,c2⟩,c3⟩:=hc
  exact ((CB.int1 (dI c1)).append (CB.int1 (bA c2))).append (CB.ops c3)
 ·replace hc:(decide (eC a8))=true:=hc
  simp only [Bool.and_eq_true,decide_eq_true_eq] at hc
  have c1:=hc
  exact CB.ep c1
 ·replace hc:(decide (cnt a6)&&decide (sit a9)&&decide (fB a10)&&decide (cnt a11))=true:=hc
  simp only [Bool.and_eq_true,decide_eq_true_eq] at hc
  obtain ⟨⟨⟨c1,c2⟩,c3⟩,c4⟩:=hc
  exact (((CB.int1 (bA c1)).append (CB.int1 (dI c2))).append (CB.ints fun n hn=>bA (c3 n hn))).append (CB.int1 (bA c4))
 ·replace hc:(decide (dL a12))=true:=hc
  simp only [Bool.and_eq_true,decide_eq_true_eq] at hc
  have c1:=hc
  exact CB.pt c1 hb
 ·replace hc:(decide (sit a13)&&decide (sit a14)&&decide (cnt a15))=true:=hc
  simp only [Bool.and_eq_true,decide_eq_true_eq] at hc
  obtain ⟨⟨c1,c2⟩,c3⟩:=hc
  exact CB.int2 (dI c1) (dI c2)
 ·replace hc:(decide (sit a13)&&decide (sit a14)&&decide (cnt a15))=true:=hc
  simp only [Bool.and_eq_true,decide_eq_true_eq] at hc
  obtain ⟨⟨c1,c2⟩,c3⟩:=hc
  exact CB.int1 (dI c1)
 ·replace hc:(decide (sit a13)&&decide (sit a14)&&decide (cnt a15))=true:=hc
  simp only [Bool.and_eq_true,decide_eq_true_eq] at hc
  obtain ⟨⟨c1,c2⟩,c3⟩:=hc
  exact (CB.int1 (dI c1)).append (CB.int1 (bA c3))
section
variable {N:Nat}
end
def eG (a:aS):Prop:=(0≤a.Group∧a.Group < 9)∧(0≤a.Replica∧a.Replica < 5)
instance (a:aS):Decidable (eG a):=by unfold eG; infer_instance
def fQ (b:aP):Prop:=cnt b.Round∧(0≤b.Replica∧b.Replica < 5)
instance (b:aP):Decidable (fQ b):=by unfold fQ; infer_instance
def jG (x:aQ):Prop:=cnt x.Slot∧fQ x.Ballot∧nD x.Entry
section
variable {N:Nat}
theorem aYe (a:aS):zR N a=some (decide (eG a)):=by
 unfold zR
 refine congrArg some (jY ?_)
 unfold eG
 simp only [Bool.and_eq_true,decide_eq_true_eq,and_assoc]
theorem aPk (b:aP):zS N b=some (decide (fQ b)):=by
 unfold zS
 rw [kX,Option.bind_some]
 refine congrArg some (jY ?_)
 unfold fQ
 simp only [Bool.and_eq_true,decide_eq_true_eq,and_assoc]
theorem aPl (hN:20≤N) (b:aP):yA N b=some (decide (fQ b)):=by
 unfold yA
 rw [nC (by simp; omega) (by simp),Option.bind_some]
 refine congrArg some (jY ?_)
 unfold fQ
 simp only [List.all_cons,List.all_nil,Bool.and_true,Bool.and_eq_true,decide_eq_true_eq,and_assoc]
theorem aPm (hN:20≤N) (a b:aS):fH N [a,b]=some (decide (eG a)&&decide (eG b)):=by
 obtain ⟨k,rfl⟩:∃ k,N=k+20:=⟨N - 20,by omega⟩
 have:fH (k+20) [a,b]=(bif ((((decide (a.Group < 0)) || (decide (9≤a.Group))) || (decide (a.Replica < 0))) || (decide (5≤a.Replica))) then some false else
   bif ((((decide (b.Group < 0)) || (decide (9≤b.Group))) || (decide (b.Replica < 0))) || (decide (5≤b.Replica))) then some false else some true):=by kernel_rfl
 rw [this]
 have key:∀ a:aS,((((decide (a.Group < 0)) || (decide (9≤a.Group))) || (decide (a.Replica < 0))) || (decide (5≤a.Replica)))=!decide (eG a):=fun a=>by
  by_cases h:eG a
  ·have h':=h
   obtain ⟨⟨h1,h2⟩,h3,h4⟩:=h'
   rw [decide_eq_true h,decide_eq_false (by omega),decide_eq_false (by omega),decide_eq_false (by omega),decide_eq_false (by omega)]; rfl
  ·rw [decide_eq_false h]
   unfold eG at h
   simp only [Bool.or_eq_true,decide_eq_true_eq,Bool.not_false]
   omega
 rw [key,key]
 cases decide (eG a)<;>cases decide (eG b)<;>rfl
end
def slq (a b:aQ):Bool:=((a.Slot==b.Slot)&&((a.Ballot.Round==b.Ballot.Round)&&(a.Ballot.Replica==b.Ballot.Replica)))&&fC a.Entry b.Entry
theorem aYf {a b:aQ} (ha:byt a.Entry.Part.Data) (hb:byt b.Entry.Part.Data):slq a b=true↔a=b:=by
 obtain ⟨a1,⟨a2,a3⟩,a4⟩:=a
 obtain ⟨b1,⟨b2,b3⟩,b4⟩:=b
 simp only [slq,Bool.and_eq_true,beq_iff_eq,aAK (a:=a4) (b:=b4) ha hb,aQ.mk.injEq,aP.mk.injEq,and_assoc]
def nG (a b:List aQ):Bool:=((a.length:Int)==(b.length:Int))&&((a.zip b).all fun p=>slq p.1 p.2)
theorem aPn:∀ {a b:List aQ},(∀ x∈a,byt x.Entry.Part.Data)→(∀ x∈b,byt x.Entry.Part.Data)→(nG a b=true↔a=b)
 | [],[],_,_=>by simp [nG]
 | [],y :: b,_,_=>by simp [nG]; omega
 | x :: a,[],_,_=>by simp [nG]; omega
 | x :: a, y :: b, ha, hb => by
  have ih:=aPn (a:=a) (b:=b) (fun z hz=>ha z (by simp [hz])) (fun z hz=>hb z (by simp [hz]))
  have h1:=aYf (ha x (by simp)) (hb y (by simp))
  unfold nG at ih ⊢
  simp only [List.length_cons,List.zip_cons_cons,List.all_cons,Bool.and_eq_true,beq_iff_eq,List.cons.injEq] at ih ⊢
  constructor
  ·rintro ⟨h,h2,h3⟩; exact ⟨h1.1 h2,ih.1 ⟨by omega,h3⟩⟩
  ·rintro ⟨h,h2⟩; obtain ⟨h3,h4⟩:=ih.2 h2; exact ⟨by omega,h1.2 h,h4⟩
section
variable {N:Nat}
def mA (N:Nat) (l:List aQ):Prop:=l.length+20≤N∧l.length≤9223372036854775807∧∀ x∈l,x.Entry.Ops.length+20≤N∧x.Entry.Ops.length≤9223372036854775807∧byt x.Entry.Part.Data
theorem aYg {a b:aQ} (h:a.Entry.Ops.length+20≤N∧a.Entry.Ops.length≤9223372036854775807∧byt a.Entry.Part.Data):yJ N a b=some (slq a b):=by
 unfold yJ
 rw [aKB (by omega) h.2.1]
 simp only [cL,Option.bind_some,dE]
 rfl
theorem aYh {a b:List aQ} (ha:mA N a):aBB N a b=some (nG a b):=by
 obtain ⟨hN,hm,hr⟩:=ha
 unfold aBB nG
 by_cases hl:a.length=b.length
 ·simp only [hl,beq_self_eq_true,Bool.not_true,cond_false,Bool.true_and]
  refine cH (fun q:uM=>0≤q.t17∧q.t17≤(a.length:Int)∧(((a.drop q.t17.toNat).zip (b.drop q.t17.toNat)).all fun p=>slq p.1 p.2)=((a.zip b).all fun p=>slq p.1 p.2)) (fun q=>((a.length:Int) - q.t17).toNat) ?_ N _ ⟨by simp,by simp,by simp⟩ (by simp; omega)
  rintro ⟨i⟩ nx ⟨g0,g1,hq⟩ ih
  simp only at g0 g1 hq ih ⊢
  by_cases hi:i < b.length
  ·have hi':i < a.length:=by omega
   have hro:=hr _ (fJ (default:aQ) g0 hi')
   rw [cK (default:aQ) g0 hi,cK (default:aQ) g0 hi',List.zip_cons_cons,List.all_cons] at hq
   simp only [decide_eq_true hi,bV g0 hi,cond_true]
   change (yJ N (aA a i default) (aA b i default)).bind _=_
   rw [aYg hro,Option.bind_some]
   cases ho:slq (aA a i default) (aA b i default) with
   | true =>
    rw [ho,Bool.true_and] at hq
    simp only [Bool.not_true,cond_false]
    rw [bH (by omega) (by omega)]
    exact ih ⟨i+1⟩ ⟨by simp; omega,by simp; omega,hq⟩ (by simp; omega)
   | false=>rw [ho,Bool.false_and] at hq; rw [← hq]; rfl
  ·have:decide (i < (b.length:Int))=false:=by simpa using hi
   simp only [this,cond_false]
   rw [List.drop_eq_nil_of_le (by omega)] at hq
   rw [← hq]; rfl
 ·have:((a.length:Int)==(b.length:Int))=false:=by simp; omega
  simp only [this,Bool.not_false,cond_true,Bool.false_and]
theorem aYi {a b:aQ} (h:a.Entry.Ops.length+20≤N∧a.Entry.Ops.length≤9223372036854775807∧byt a.Entry.Part.Data):zQ N a b=some (slq a b):=by
 unfold zQ
 rw [aKC (by omega) h.2.1]
 simp only [cL,Option.bind_some,dE]
 rfl
theorem aYj {a b:List aQ} (ha:mA N a):aCp N a b=some (nG a b):=by
 obtain ⟨hN,hm,hr⟩:=ha
 unfold aCp nG
 by_cases hl:a.length=b.length
 ·simp only [hl,beq_self_eq_true,Bool.not_true,cond_false,Bool.true_and]
  refine cH (fun q:vK=>0≤q.i∧q.i≤(a.length:Int)∧(((a.drop q.i.toNat).zip (b.drop q.i.toNat)).all fun p=>slq p.1 p.2)=((a.zip b).all fun p=>slq p.1 p.2)) (fun q=>((a.length:Int) - q.i).toNat) ?_ N _ ⟨by simp,by simp,by simp⟩ (by simp; omega)
  rintro ⟨i⟩ nx ⟨g0,g1,hq⟩ ih
  simp only at g0 g1 hq ih ⊢
  by_cases hi:i < b.length
  ·have hi':i < a.length:=by omega
   have hro:=hr _ (fJ (default:aQ) g0 hi')
   rw [cK (default:aQ) g0 hi,cK (default:aQ) g0 hi',List.zip_cons_cons,List.all_cons] at hq
   simp only [decide_eq_true hi,bV g0 hi,cond_true]
   change (zQ N (aA a i default) (aA b i default)).bind _=_
   rw [aYi hro,Option.bind_some]
   cases ho:slq (aA a i default) (aA b i default) with
   | true =>
    rw [ho,Bool.true_and] at hq
    simp only [Bool.not_true,cond_false]
    rw [bH (by omega) (by omega)]
    exact ih ⟨i+1⟩ ⟨by simp; omega,by simp; omega,hq⟩ (by simp; omega)
   | false=>rw [ho,Bool.false_and] at hq; rw [← hq]; rfl
  ·have:decide (i < (b.length:Int))=false:=by simpa using hi
   simp only [this,cond_false]
   rw [List.drop_eq_nil_of_le (by omega)] at hq
   rw [← hq]; rfl
 ·have:((a.length:Int)==(b.length:Int))=false:=by simp; omega
  simp only [this,Bool.not_false,cond_true,Bool.false_and]
end
def adq (a b:aS):Bool:=(a.Group==b.Group)&&(a.Replica==b.Replica)
def baq (a b:aP):Bool:=(a.Round==b.Round)&&(a.Replica==b.Replica)
theorem aYk (a b:aS):adq a b=true↔a=b:=by
 obtain ⟨a1,a2⟩:=a
 obtain ⟨b1,b2⟩:=b
 simp only [adq,Bool.and_eq_true,beq_iff_eq,aS.mk.injEq]
theorem aYl (a b:aP):baq a b=true↔a=b:=by
 obtain ⟨a1,a2⟩:=a
 obtain ⟨b1,b2⟩:=b
 simp only [baq,Bool.and_eq_true,beq_iff_eq,aP.mk.injEq]
def sameM (a b:aB):Bool :=
 (((((((((((((a.Kind==b.Kind)&&adq a.From b.From)&&adq a.To b.To)&&baq a.Ballot b.Ballot)&&(a.Slot==b.Slot))&&nG a.List_ b.List_)&&fC a.Entry b.Entry)&&(a.Number==b.Number))&&(bR cM a.Vector_ b.Vector_))&&(a.Clock==b.Clock))&&(a.Origin==b.Origin))&&qS a.Ops b.Ops)&&epq a.Epoch b.Epoch)&&ptq a.Part b.Part
def iP (m:aB):Prop:=(∀ x∈m.List_,byt x.Entry.Part.Data)∧byt m.Entry.Part.Data∧byt m.Part.Data
def roomM (N:Nat) (m:aB):Prop:=mA N m.List_∧(m.Entry.Ops.length+20≤N∧m.Entry.Ops.length≤9223372036854775807∧byt m.Entry.Part.Data)∧(m.Ops.length+20≤N∧m.Ops.length≤9223372036854775807)∧byt m.Part.Data
theorem roomM.byt {N:Nat} {m:aB} (h:roomM N m):iP m:=⟨fun x hx=>(h.1.2.2 x hx).2.2,h.2.1.2.2,h.2.2.2⟩
theorem aDL {a b:aB} (ha:iP a) (hb:iP b):sameM a b=true↔a=b:=by
 obtain ⟨a1,a2,a3,a4,a5,a6,a7,a8,a9,a10,a11,a12,a13,a14⟩:=a
 obtain ⟨b1,b2,b3,b4,b5,b6,b7,b8,b9,b10,b11,b12,b13,b14⟩:=b
 obtain ⟨p1,p2,p3⟩:=ha
 obtain ⟨q1,q2,q3⟩:=hb
 simp only [sameM,Bool.and_eq_true,beq_iff_eq,aYk,aYl,aPn (a:=a6) (b:=b6) p1 q1,aAK (a:=a7) (b:=b7) p2 q2,aDD aKA,aO3,aO6,aO7 (a:=a14) (b:=b14) p3 q3,aB.mk.injEq,and_assoc]
section
variable {N:Nat}
theorem aYm {a b:aB} (h:roomM N a):yK N a b=some (sameM a b):=by
 obtain ⟨h1,h2,h3,h4⟩:=h
 unfold yK yC
 rw [aYh h1,aKB (by omega) h2.2.1,aO4 (by omega) h3.2]
 simp only [cL,Option.bind_some,dE]
 rfl
theorem aYn {a b:aB} (h:roomM N a):sA N a b=some (sameM a b):=by
 obtain ⟨h1,h2,h3,h4⟩:=h
 unfold sA zO
 rw [aYj h1,aKC (by omega) h2.2.1,aO5 (by omega) h3.2]
 simp only [cL,Option.bind_some,dE]
 rfl
end
def cR (e:aC):Bool:=decide (0≤e.Kind∧e.Kind≤8)&&fC e (bZ e)&&eS e
theorem xC {e:aC} (hb:byt e.Part.Data):cR e=true↔nD e:=by
 unfold cR nD jZ
 simp only [Bool.and_eq_true,decide_eq_true_eq,aAK hb (aKG hb),and_assoc]
def fR (x:aQ):Bool:=decide (cnt x.Slot)&&decide (fQ x.Ballot)&&cR x.Entry
section
variable {N:Nat}
theorem aPo {e:aC} (h:e.Ops.length+20≤N∧e.Ops.length≤9223372036854775807∧byt e.Part.Data):gP N e=some (bif cR e then 0 else 40):=by
 rcases aYb h.1 h.2.1 h.2.2 with ⟨p,q⟩ | ⟨p,q⟩
 ·rw [q,(xC h.2.2).2 p]; rfl
 ·have:cR e=false:=Bool.eq_false_iff.2 fun hm=>p ((xC h.2.2).1 hm)
  rw [q,this]; rfl
theorem aPp {e:aC} (h:e.Ops.length+20≤N∧e.Ops.length≤9223372036854775807∧byt e.Part.Data):gU N e=some (cR e):=by
 rcases aYc h.1 h.2.1 h.2.2 with ⟨p,q⟩ | ⟨p,q⟩
 ·rw [q,(xC h.2.2).2 p]
 ·have:cR e=false:=Bool.eq_false_iff.2 fun hm=>p ((xC h.2.2).1 hm)
  rw [q,this]
theorem maySl1 (hN:20≤N) {x:aQ} (h:x.Entry.Ops.length+20≤N∧x.Entry.Ops.length≤9223372036854775807∧byt x.Entry.Part.Data):yH N x=some (!fR x):=by
 unfold yH fR
 rw [nC (by simp; omega) (by simp),aPl hN,aPo h]
 simp only [Option.bind_some,List.all_cons,List.all_nil,Bool.and_true]
 cases decide (cnt x.Slot)<;>cases decide (fQ x.Ballot)<;>cases cR x.Entry<;>rfl
theorem aYo {l:List aQ} (h:mA N l):aBA N l=some (!(l.all fR)):=by
 obtain ⟨hN,hm,hr⟩:=h
 unfold aBA
 have key:∃ r,aBz N l=some r∧decide (0≤r)=!(l.all fR):=by
  unfold aBz
  refine wV (fun q:uL=>0≤q.t8∧q.t8≤(l.length:Int)∧((l.drop q.t8.toNat).all fR)=l.all fR) (fun q=>((l.length:Int) - q.t8).toNat) _ ?_ N _ ⟨by simp,by simp,by simp⟩ (by simp; omega)
  rintro ⟨i⟩ nx ⟨g0,g1,hq⟩ ih
  simp only at g0 g1 hq ih ⊢
  by_cases hi:i < l.length
  ·have hro:=hr _ (fJ (default:aQ) g0 hi)
   rw [cK (default:aQ) g0 hi,List.all_cons] at hq
   simp only [decide_eq_true hi,bV g0 hi,cond_true]
   change ∃ r,(yH N (aA l i default)).bind _=some r∧_
   rw [maySl1 (by omega) hro,Option.bind_some]
   cases ho:fR (aA l i default) with
   | true =>
    rw [ho,Bool.true_and] at hq
    simp only [Bool.not_true,cond_false]
    rw [bH (by omega) (by omega)]
    exact ih ⟨i+1⟩ ⟨by simp; omega,by simp; omega,hq⟩ (by simp; omega)
   | false =>
    rw [ho,Bool.false_and] at hq
    exact ⟨i,rfl,by rw [← hq]; simpa using g0⟩
  ·have:decide (i < (l.length:Int))=false:=by simpa using hi
   simp only [this,cond_false]
   rw [List.drop_eq_nil_of_le (by omega)] at hq
   exact ⟨-1,rfl,by rw [← hq]; rfl⟩
 obtain ⟨r,h1,h2⟩:=key
 rw [h1,Option.bind_some,h2]
end
theorem eta_en (e:aC):(⟨e.Kind,e.Session,e.Request,(⟨e.Op.Stamp,e.Op.Kind,e.Op.Node,e.Op.Parent,e.Op.Name,e.Op.Key,e.Op.Value⟩:GOp),e.Origin,e.Seq,e.Ops,e.Epoch,e.From,e.Vector_,e.Clock,e.Part,e.Site,e.Sponsor,e.Length⟩:aC)=e:=rfl
def eL (l:List aQ) (a b:Int):Bool:=(decide (a≤(l.length:Int))&&decide ((l.length:Int)≤b))&&l.all fR
section
variable {N:Nat}
theorem aYp {l:List aQ} (h:mA N l) (a b:Int):yI N l a b=some (eL l a b):=by
 unfold yI eL
 rw [aYo h]
 simp only [cL,Option.bind_some]
 cases decide (a≤(l.length:Int))<;>cases decide ((l.length:Int)≤b)<;>cases l.all fR<;>rfl
theorem aYq {l:List aQ} (h:mA N l) (a b:Int):vP N l a b=some (eL l a b):=by
 obtain ⟨hN,hm,hr⟩:=h
 unfold vP
 refine cH (fun q:vO=>0≤q.i∧q.i≤(l.length:Int)∧((l.drop q.i.toNat).all fR)=l.all fR) (fun q=>((l.length:Int) - q.i).toNat) ?_ N _ ⟨by simp,by simp,by simp⟩ (by simp; omega)
 rintro ⟨i⟩ nx ⟨g0,g1,hq⟩ ih
 simp only at g0 g1 hq ih ⊢
 by_cases hi:i < l.length
 ·have hro:=hr _ (fJ (default:aQ) g0 hi)
  rw [cK (default:aQ) g0 hi,List.all_cons] at hq
  have he:gU N (aA l i default).Entry=some (cR (aA l i default).Entry):=aPp hro
  simp only [decide_eq_true hi,bV g0 hi,cond_true,Bool.or_true,kX,aPk,Option.bind_some,cL,eta_en,he]
  have hms:((!decide (cnt (aA l i default).Slot) || !(bif !!decide (cnt (aA l i default).Slot) then decide (fQ (aA l i default).Ballot) else default)) || !(bif !((!decide (cnt (aA l i default).Slot)) || !(bif !!decide (cnt (aA l i default).Slot) then decide (fQ (aA l i default).Ballot) else default)) then cR (aA l i default).Entry else default))=!fR (aA l i default):=by
   unfold fR
   cases decide (cnt (aA l i default).Slot)<;>cases decide (fQ (aA l i default).Ballot)<;>cases cR (aA l i default).Entry<;>rfl
  rw [hms]
  cases ho:fR (aA l i default) with
  | true =>
   rw [ho,Bool.true_and] at hq
   simp only [Bool.not_true,cond_false]
   rw [bH (by omega) (by omega)]
   exact ih ⟨i+1⟩ ⟨by simp; omega,by simp; omega,hq⟩ (by simp; omega)
  | false =>
   rw [ho,Bool.false_and] at hq
   unfold eL
   rw [← hq]; simp
 ·have:decide (i < (l.length:Int))=false:=by simpa using hi
  simp only [this,cond_false]
  rw [List.drop_eq_nil_of_le (by omega)] at hq
  unfold eL
  rw [← hq]; simp
end
def zBa:aP:=⟨0,0⟩
def zEn:aC:=⟨0,0,0,zOp,0,0,[],zEp,0,zV,0,zPt,0,0,0⟩
def dJ (m:aB):aB :=
 bif m.Kind==1 then ⟨m.Kind,m.From,m.To,m.Ballot,m.Slot,[],zEn,0,zV,0,0,[],zEp,zPt⟩ else
 bif m.Kind==2 then ⟨m.Kind,m.From,m.To,m.Ballot,m.Slot,m.List_,zEn,0,zV,0,0,[],zEp,zPt⟩ else
 bif m.Kind==3 then ⟨m.Kind,m.From,m.To,m.Ballot,0,m.List_,zEn,0,zV,0,0,[],zEp,zPt⟩ else
 bif m.Kind==4 then ⟨m.Kind,m.From,m.To,m.Ballot,m.Slot,[],zEn,0,zV,0,0,[],zEp,zPt⟩ else
 bif m.Kind==5 then ⟨m.Kind,m.From,m.To,m.Ballot,0,[],zEn,0,zV,0,0,[],zEp,zPt⟩ else
 bif m.Kind==6 then ⟨m.Kind,m.From,m.To,zBa,0,m.List_,zEn,0,zV,0,0,[],zEp,zPt⟩ else
 bif m.Kind==7 then ⟨m.Kind,m.From,m.To,m.Ballot,m.Slot,[],zEn,0,zV,0,0,[],zEp,zPt⟩ else
 bif m.Kind==8 then ⟨m.Kind,m.From,m.To,zBa,m.Slot,[],zEn,0,zV,0,0,[],zEp,zPt⟩ else
 bif m.Kind==9 then ⟨m.Kind,m.From,m.To,zBa,0,[],m.Entry,0,zV,0,0,[],zEp,zPt⟩ else
 bif m.Kind==10 then ⟨m.Kind,m.From,m.To,zBa,0,[],zEn,m.Number,m.Vector_,m.Clock,0,[],zEp,zPt⟩ else
 bif m.Kind==11 then ⟨m.Kind,m.From,m.To,zBa,m.Slot,[],zEn,m.Number,zV,0,m.Origin,m.Ops,zEp,zPt⟩ else
 bif m.Kind==12 then ⟨m.Kind,m.From,m.To,zBa,0,[],zEn,0,zV,0,0,[],m.Epoch,zPt⟩ else
 bif m.Kind==13 then ⟨m.Kind,m.From,m.To,zBa,0,[],zEn,0,zV,0,0,[],zEp,m.Part⟩ else
 bif m.Kind==14 then ⟨m.Kind,m.From,m.To,zBa,0,[],zEn,m.Number,m.Vector_,0,0,[],zEp,zPt⟩ else
 bif m.Kind==15 then ⟨m.Kind,m.From,m.To,zBa,m.Slot,[],zEn,0,zV,0,0,[],zEp,m.Part⟩ else
 ⟨m.Kind,m.From,m.To,zBa,0,[],zEn,0,zV,0,0,[],zEp,zPt⟩
def spM (m:aB):Bool :=
 bif m.Kind==3 then ((m.List_.length:Int)==1) else
 bif m.Kind==6 then decide (1≤(m.List_.length:Int)) else
 bif m.Kind==11 then decide (sit m.Origin)&&decide (eR m.Ops) else
 bif m.Kind==12 then decide (eC m.Epoch) else
 bif m.Kind==13 then decide (dL m.Part) else
 bif m.Kind==15 then decide (dL m.Part) else true
def sp2 (m:aB):Bool :=
 bif m.Kind==2 then eL m.List_ 0 4096 else
 bif m.Kind==3 then eL m.List_ 1 1 else
 bif m.Kind==6 then eL m.List_ 1 4096 else
 bif m.Kind==9 then cR m.Entry else
 bif m.Kind==11 then decide (sit m.Origin)&&decide (eR m.Ops) else
 bif m.Kind==12 then decide (eC m.Epoch) else
 bif m.Kind==13 then decide (dL m.Part) else
 bif m.Kind==15 then decide (dL m.Part) else true
def hJ (m:aB):Prop:=1≤m.Kind∧m.Kind≤15
instance (m:aB):Decidable (hJ m):=by unfold hJ; infer_instance
def numM (b:aB):Bool:=decide (fQ b.Ballot)&&(decide (cnt b.Slot)&&decide (cnt b.Number)&&decide (cnt b.Clock))&&decide (fB b.Vector_)
def hY (m:aB):Bool:=decide (hJ m)&&sameM m (dJ m)&&(decide (eG m.From)&&decide (eG m.To))&&numM m&&sp2 m
theorem xD {m:aB} (h:hJ m):m.Kind=1∨m.Kind=2∨m.Kind=3∨m.Kind=4∨m.Kind=5∨m.Kind=6∨m.Kind=7∨m.Kind=8∨m.Kind=9∨m.Kind=10∨m.Kind=11∨m.Kind=12∨m.Kind=13∨m.Kind=14∨m.Kind=15:=by unfold hJ at h; omega
theorem jH:cR zEn=true:=by kernel_rfl
section
variable {N:Nat}
theorem aYr (hN:20≤N) {o:Bool} {m x b:aB} (hb:roomM N b):yL N x ⟨o,m,b⟩=some (bif (((o&&numM b)&&eL b.List_ 0 4096)&&cR b.Entry)&&sameM b m then 0 else 40):=by
 have h3:dT N [b.Slot,b.Number,b.Clock]=some (decide (cnt b.Slot)&&decide (cnt b.Number)&&decide (cnt b.Clock)):=by
  rw [nC (by simp; omega) (by simp)]; simp [Bool.and_assoc]
 have h8:dT N b.Vector_.toList=some (decide (fB b.Vector_)):=by
  rw [nC (by simp; omega) (by simp),aKE]
 unfold yL numM
 simp only [aPl hN,h3,h8,aYp hb.1,aPo hb.2.1,aYm hb,cL,Option.bind_some,dE]
 generalize decide (fQ b.Ballot)=p1
 generalize (decide (cnt b.Slot)&&decide (cnt b.Number)&&decide (cnt b.Clock))=p2
 generalize decide (fB b.Vector_)=p3
 generalize eL b.List_ 0 4096=p4
 generalize cR b.Entry=p5
 generalize sameM b m=p6
 cases o<;>cases p1<;>cases p2<;>cases p3<;>cases p4<;>cases p5<;>cases p6<;>rfl
theorem aPq {m:aB} (h:roomM N m) (hN:20≤N):roomM N (dJ m):=by
 obtain ⟨h1,h2,h3,h4⟩:=h
 have r1:mA N ([]:List aQ):=⟨by simp; omega,by simp,fun x hx=>by cases hx⟩
 have r2:zEn.Ops.length+20≤N∧zEn.Ops.length≤9223372036854775807∧byt zEn.Part.Data:=⟨by simpa [zEn] using hN,by simp [zEn],fun x hx=>by cases hx⟩
 have r3:([]:List GOp).length+20≤N∧([]:List GOp).length≤9223372036854775807:=⟨by simpa using hN,by simp⟩
 have r4:byt zPt.Data:=fun x hx=>by cases hx
 unfold dJ
 repeat' (refine (show ∀ (c:Bool) (x y:aB),roomM N x→roomM N y→roomM N (bif c then x else y) from fun c x y hx hy=>by cases c<;>assumption) _ _ _ ?_ ?_)
 all_goals exact ⟨by first | exact h1 | exact r1,by first | exact h2 | exact r2,by first | exact h3 | exact r3,by first | exact h4 | exact r4⟩
theorem aYs (hN:20≤N) {m:aB} (hk:hJ m) (hops:m.Ops.length+20≤N) (hl:m.Ops.length≤9223372036854775807):eU N m=some (.inl ⟨(decide (eG m.From)&&decide (eG m.To))&&spM m,m,dJ m⟩):=by
 have ha:=fun a b=>aPm hN a b
 have hs1:=fun a=>aKD (N:=N) (l:=[a]) (by simp; omega) (by simp)
 have hop:=aO8 (N:=N) (l:=m.Ops) (by omega) hl
 have hep:=fun x=>aPa (N:=N) (by omega) x
 have hpt:=fun x=>aPc (N:=N) (by omega) x
 have hk':=xD hk
 obtain ⟨kd,a2,a3,a4,a5,a6,a7,a8,a9,a10,a11,a12,a13,a14⟩:=m
 simp only at hk' hop
 rcases hk' with rfl | rfl | rfl | rfl | rfl | rfl | rfl | rfl | rfl | rfl | rfl | rfl | rfl | rfl | rfl
 ·have hz:eU N (⟨1,a2,a3,a4,a5,a6,a7,a8,a9,a10,a11,a12,a13,a14⟩:aB)=((fH N [a2,a3]).bind fun r1=>some (.inl ⟨r1,(⟨1,a2,a3,a4,a5,a6,a7,a8,a9,a10,a11,a12,a13,a14⟩:aB),dJ (⟨1,a2,a3,a4,a5,a6,a7,a8,a9,a10,a11,a12,a13,a14⟩:aB)⟩)):=rfl
  rw [hz,ha,Option.bind_some]
  rw [show spM (⟨1,a2,a3,a4,a5,a6,a7,a8,a9,a10,a11,a12,a13,a14⟩:aB)=true from rfl]
  rw [Bool.and_true]
 ·have hz:eU N (⟨2,a2,a3,a4,a5,a6,a7,a8,a9,a10,a11,a12,a13,a14⟩:aB)=((fH N [a2,a3]).bind fun r1=>some (.inl ⟨r1,(⟨2,a2,a3,a4,a5,a6,a7,a8,a9,a10,a11,a12,a13,a14⟩:aB),dJ (⟨2,a2,a3,a4,a5,a6,a7,a8,a9,a10,a11,a12,a13,a14⟩:aB)⟩)):=rfl
  rw [hz,ha,Option.bind_some]
  rw [show spM (⟨2,a2,a3,a4,a5,a6,a7,a8,a9,a10,a11,a12,a13,a14⟩:aB)=true from rfl]
  rw [Bool.and_true]
 ·have hz:eU N (⟨3,a2,a3,a4,a5,a6,a7,a8,a9,a10,a11,a12,a13,a14⟩:aB)=((fH N [a2,a3]).bind fun r1=>some (.inl ⟨(r1&&((a6.length:Int)==1)),(⟨3,a2,a3,a4,a5,a6,a7,a8,a9,a10,a11,a12,a13,a14⟩:aB),dJ (⟨3,a2,a3,a4,a5,a6,a7,a8,a9,a10,a11,a12,a13,a14⟩:aB)⟩)):=rfl
  rw [hz,ha,Option.bind_some]
  rw [show spM (⟨3,a2,a3,a4,a5,a6,a7,a8,a9,a10,a11,a12,a13,a14⟩:aB)=((a6.length:Int)==1) from rfl]
 ·have hz:eU N (⟨4,a2,a3,a4,a5,a6,a7,a8,a9,a10,a11,a12,a13,a14⟩:aB)=((fH N [a2,a3]).bind fun r1=>some (.inl ⟨r1,(⟨4,a2,a3,a4,a5,a6,a7,a8,a9,a10,a11,a12,a13,a14⟩:aB),dJ (⟨4,a2,a3,a4,a5,a6,a7,a8,a9,a10,a11,a12,a13,a14⟩:aB)⟩)):=rfl
  rw [hz,ha,Option.bind_some]
  rw [show spM (⟨4,a2,a3,a4,a5,a6,a7,a8,a9,a10,a11,a12,a13,a14⟩:aB)=true from rfl]
  rw [Bool.and_true]
 ·have hz:eU N (⟨5,a2,a3,a4,a5,a6,a7,a8,a9,a10,a11,a12,a13,a14⟩:aB)=((fH N [a2,a3]).bind fun r1=>some (.inl ⟨r1,(⟨5,a2,a3,a4,a5,a6,a7,a8,a9,a10,a11,a12,a13,a14⟩:aB),dJ (⟨5,a2,a3,a4,a5,a6,a7,a8,a9,a10,a11,a12,a13,a14⟩:aB)⟩)):=rfl
  rw [hz,ha,Option.bind_some]
  rw [show spM (⟨5,a2,a3,a4,a5,a6,a7,a8,a9,a10,a11,a12,a13,a14⟩:aB)=true from rfl]
  rw [Bool.and_true]
 ·have hz:eU N (⟨6,a2,a3,a4,a5,a6,a7,a8,a9,a10,a11,a12,a13,a14⟩:aB)=((fH N [a2,a3]).bind fun r1=>some (.inl ⟨(r1&&(decide (1≤(a6.length:Int)))),(⟨6,a2,a3,a4,a5,a6,a7,a8,a9,a10,a11,a12,a13,a14⟩:aB),dJ (⟨6,a2,a3,a4,a5,a6,a7,a8,a9,a10,a11,a12,a13,a14⟩:aB)⟩)):=rfl
  rw [hz,ha,Option.bind_some]
  rw [show spM (⟨6,a2,a3,a4,a5,a6,a7,a8,a9,a10,a11,a12,a13,a14⟩:aB)=decide (1≤(a6.length:Int)) from rfl]
 ·have hz:eU N (⟨7,a2,a3,a4,a5,a6,a7,a8,a9,a10,a11,a12,a13,a14⟩:aB)=((fH N [a2,a3]).bind fun r1=>some (.inl ⟨r1,(⟨7,a2,a3,a4,a5,a6,a7,a8,a9,a10,a11,a12,a13,a14⟩:aB),dJ (⟨7,a2,a3,a4,a5,a6,a7,a8,a9,a10,a11,a12,a13,a14⟩:aB)⟩)):=rfl
  rw [hz,ha,Option.bind_some]
  rw [show spM (⟨7,a2,a3,a4,a5,a6,a7,a8,a9,a10,a11,a12,a13,a14⟩:aB)=true from rfl]
  rw [Bool.and_true]
 ·have hz:eU N (⟨8,a2,a3,a4,a5,a6,a7,a8,a9,a10,a11,a12,a13,a14⟩:aB)=((fH N [a2,a3]).bind fun r1=>some (.inl ⟨r1,(⟨8,a2,a3,a4,a5,a6,a7,a8,a9,a10,a11,a12,a13,a14⟩:aB),dJ (⟨8,a2,a3,a4,a5,a6,a7,a8,a9,a10,a11,a12,a13,a14⟩:aB)⟩)):=rfl
  rw [hz,ha,Option.bind_some]
  rw [show spM (⟨8,a2,a3,a4,a5,a6,a7,a8,a9,a10,a11,a12,a13,a14⟩:aB)=true from rfl]
  rw [Bool.and_true]
 ·have hz:eU N (⟨9,a2,a3,a4,a5,a6,a7,a8,a9,a10,a11,a12,a13,a14⟩:aB)=((fH N [a2,a3]).bind fun r1=>some (.inl ⟨r1,(⟨9,a2,a3,a4,a5,a6,a7,a8,a9,a10,a11,a12,a13,a14⟩:aB),dJ (⟨9,a2,a3,a4,a5,a6,a7,a8,a9,a10,a11,a12,a13,a14⟩:aB)⟩)):=rfl
  rw [hz,ha,Option.bind_some]
  rw [show spM (⟨9,a2,a3,a4,a5,a6,a7,a8,a9,a10,a11,a12,a13,a14⟩:aB)=true from rfl]
  rw [Bool.and_true]
 ·have hz:eU N (⟨10,a2,a3,a4,a5,a6,a7,a8,a9,a10,a11,a12,a13,a14⟩:aB)=((fH N [a2,a3]).bind fun r1=>some (.inl ⟨r1,(⟨10,a2,a3,a4,a5,a6,a7,a8,a9,a10,a11,a12,a13,a14⟩:aB),dJ (⟨10,a2,a3,a4,a5,a6,a7,a8,a9,a10,a11,a12,a13,a14⟩:aB)⟩)):=rfl
  rw [hz,ha,Option.bind_some]
  rw [show spM (⟨10,a2,a3,a4,a5,a6,a7,a8,a9,a10,a11,a12,a13,a14⟩:aB)=true from rfl]
  rw [Bool.and_true]
 ·have hz:eU N (⟨11,a2,a3,a4,a5,a6,a7,a8,a9,a10,a11,a12,a13,a14⟩:aB)=((fH N [a2,a3]).bind fun r1=>((bif r1 then eT N [a11] else some default).bind fun r2=>((bif (r1&&r2) then nN N a12 1 else some default).bind fun r3=>some (.inl ⟨((r1&&r2)&&r3),(⟨11,a2,a3,a4,a5,a6,a7,a8,a9,a10,a11,a12,a13,a14⟩:aB),dJ (⟨11,a2,a3,a4,a5,a6,a7,a8,a9,a10,a11,a12,a13,a14⟩:aB)⟩)))):=rfl
  rw [hz,ha,Option.bind_some]
  rw [show spM (⟨11,a2,a3,a4,a5,a6,a7,a8,a9,a10,a11,a12,a13,a14⟩:aB)=(decide (sit a11)&&decide (eR a12)) from rfl]
  simp only [hs1,hop,hep,hpt,cL,Option.bind_some,dE,List.all_cons,List.all_nil,Bool.and_true]
  rw [Bool.and_assoc]
 ·have hz:eU N (⟨12,a2,a3,a4,a5,a6,a7,a8,a9,a10,a11,a12,a13,a14⟩:aB)=((fH N [a2,a3]).bind fun r1=>((bif r1 then nO N a13 else some default).bind fun r4=>some (.inl ⟨(r1&&r4),(⟨12,a2,a3,a4,a5,a6,a7,a8,a9,a10,a11,a12,a13,a14⟩:aB),dJ (⟨12,a2,a3,a4,a5,a6,a7,a8,a9,a10,a11,a12,a13,a14⟩:aB)⟩))):=rfl
  rw [hz,ha,Option.bind_some]
  rw [show spM (⟨12,a2,a3,a4,a5,a6,a7,a8,a9,a10,a11,a12,a13,a14⟩:aB)=decide (eC a13) from rfl]
  simp only [hs1,hop,hep,hpt,cL,Option.bind_some,dE,List.all_cons,List.all_nil,Bool.and_true]
 ·have hz:eU N (⟨13,a2,a3,a4,a5,a6,a7,a8,a9,a10,a11,a12,a13,a14⟩:aB)=((fH N [a2,a3]).bind fun r1=>((bif r1 then jN N a14 else some default).bind fun r5=>some (.inl ⟨(r1&&r5),(⟨13,a2,a3,a4,a5,a6,a7,a8,a9,a10,a11,a12,a13,a14⟩:aB),dJ (⟨13,a2,a3,a4,a5,a6,a7,a8,a9,a10,a11,a12,a13,a14⟩:aB)⟩))):=rfl
  rw [hz,ha,Option.bind_some]
  rw [show spM (⟨13,a2,a3,a4,a5,a6,a7,a8,a9,a10,a11,a12,a13,a14⟩:aB)=decide (dL a14) from rfl]
  simp only [hs1,hop,hep,hpt,cL,Option.bind_some,dE,List.all_cons,List.all_nil,Bool.and_true]
 ·have hz:eU N (⟨14,a2,a3,a4,a5,a6,a7,a8,a9,a10,a11,a12,a13,a14⟩:aB)=((fH N [a2,a3]).bind fun r1=>some (.inl ⟨r1,(⟨14,a2,a3,a4,a5,a6,a7,a8,a9,a10,a11,a12,a13,a14⟩:aB),dJ (⟨14,a2,a3,a4,a5,a6,a7,a8,a9,a10,a11,a12,a13,a14⟩:aB)⟩)):=rfl
  rw [hz,ha,Option.bind_some]
  rw [show spM (⟨14,a2,a3,a4,a5,a6,a7,a8,a9,a10,a11,a12,a13,a14⟩:aB)=true from rfl]
  rw [Bool.and_true]
 ·have hz:eU N (⟨15,a2,a3,a4,a5,a6,a7,a8,a9,a10,a11,a12,a13,a14⟩:aB)=((fH N [a2,a3]).bind fun r1=>((bif r1 then jN N a14 else some default).bind fun r5=>some (.inl ⟨(r1&&r5),(⟨15,a2,a3,a4,a5,a6,a7,a8,a9,a10,a11,a12,a13,a14⟩:aB),dJ (⟨15,a2,a3,a4,a5,a6,a7,a8,a9,a10,a11,a12,a13,a14⟩:aB)⟩))):=rfl
  rw [hz,ha,Option.bind_some]
  rw [show spM (⟨15,a2,a3,a4,a5,a6,a7,a8,a9,a10,a11,a12,a13,a14⟩:aB)=decide (dL a14) from rfl]
  simp only [hs1,hop,hep,hpt,cL,Option.bind_some,dE,List.all_cons,List.all_nil,Bool.and_true]
theorem aYt (hN:20≤N) {m:aB} (hk:¬ hJ m):∃ b,eU N m=some (.inl ⟨false,m,b⟩):=by
 have hne:∀ k:Int,1≤k→k≤15→(m.Kind==k)=false:=fun k h0 h8=>by
  refine beq_eq_false_iff_ne.2 fun h=>hk ?_
  unfold hJ; omega
 unfold eU
 rw [aPm hN,Option.bind_some,hne 1 (by decide) (by decide),hne 2 (by decide) (by decide),hne 3 (by decide) (by decide),hne 4 (by decide) (by decide),hne 5 (by decide) (by decide),hne 6 (by decide) (by decide),hne 7 (by decide) (by decide),hne 8 (by decide) (by decide),hne 9 (by decide) (by decide),hne 10 (by decide) (by decide),hne 11 (by decide) (by decide),hne 12 (by decide) (by decide),hne 13 (by decide) (by decide),hne 14 (by decide) (by decide),hne 15 (by decide) (by decide)]
 exact ⟨_,rfl⟩
theorem sp_eq {m:aB} (hk:hJ m) (h:m=dJ m):((spM m&&eL m.List_ 0 4096)&&cR m.Entry)=sp2 m:=by
 have hL:=congrArg aB.List_ h
 have hE:=congrArg aB.Entry h
 have hk':=xD hk
 obtain ⟨kd,a2,a3,a4,a5,a6,a7,a8,a9,a10,a11,a12,a13,a14⟩:=m
 simp only at hk'
 rcases hk' with rfl | rfl | rfl | rfl | rfl | rfl | rfl | rfl | rfl | rfl | rfl | rfl | rfl | rfl | rfl
 ·replace hL:a6=[]:=hL
  replace hE:a7=zEn:=hE
  rw [hE,hL]
  show ((true&&true)&&cR zEn)=true
  rw [jH,Bool.and_true,Bool.and_true]
 ·replace hL:a6=a6:=hL
  replace hE:a7=zEn:=hE
  rw [hE]
  show ((true&&eL a6 0 4096)&&cR zEn)=eL a6 0 4096
  rw [jH,Bool.and_true]
  rfl
 ·replace hL:a6=a6:=hL
  replace hE:a7=zEn:=hE
  rw [hE]
  show ((((a6.length:Int)==1)&&eL a6 0 4096)&&cR zEn)=eL a6 1 1
  rw [jH,Bool.and_true]
  unfold eL
  cases a6.all fR with
  | false=>simp
  | true=>rw [Bool.eq_iff_iff]; simp<;>omega
 ·replace hL:a6=[]:=hL
  replace hE:a7=zEn:=hE
  rw [hE,hL]
  show ((true&&true)&&cR zEn)=true
  rw [jH,Bool.and_true,Bool.and_true]
 ·replace hL:a6=[]:=hL
  replace hE:a7=zEn:=hE
  rw [hE,hL]
  show ((true&&true)&&cR zEn)=true
  rw [jH,Bool.and_true,Bool.and_true]
 ·replace hL:a6=a6:=hL
  replace hE:a7=zEn:=hE
  rw [hE]
  show ((decide (1≤(a6.length:Int))&&eL a6 0 4096)&&cR zEn)=eL a6 1 4096
  rw [jH,Bool.and_true]
  unfold eL
  cases a6.all fR with
  | false=>simp
  | true=>rw [Bool.eq_iff_iff]; simp<;>omega
 ·replace hL:a6=[]:=hL
  replace hE:a7=zEn:=hE
  rw [hE,hL]
  show ((true&&true)&&cR zEn)=true
  rw [jH,Bool.and_true,Bool.and_true]
 ·replace hL:a6=[]:=hL
  replace hE:a7=zEn:=hE
  rw [hE,hL]
  show ((true&&true)&&cR zEn)=true
  rw [jH,Bool.and_true,Bool.and_true]
 ·replace hL:a6=[]:=hL
  replace hE:a7=a7:=hE
  subst hL
  show ((true&&true)&&cR a7)=cR a7
  rfl
 ·replace hL:a6=[]:=hL
  replace hE:a7=zEn:=hE
  rw [hE,hL]
  show ((true&&true)&&cR zEn)=true
  rw [jH,Bool.and_true,Bool.and_true]
 ·replace hL:a6=[]:=hL
  replace hE:a7=zEn:=hE
  rw [hE,hL]
  show (((decide (sit a11)&&decide (eR a12))&&true)&&cR zEn)=(decide (sit a11)&&decide (eR a12))
  rw [jH,Bool.and_true,Bool.and_true]
 ·replace hL:a6=[]:=hL
  replace hE:a7=zEn:=hE
  rw [hE,hL]
  show ((decide (eC a13)&&true)&&cR zEn)=decide (eC a13)
  rw [jH,Bool.and_true,Bool.and_true]
 ·replace hL:a6=[]:=hL
  replace hE:a7=zEn:=hE
  rw [hE,hL]
  show ((decide (dL a14)&&true)&&cR zEn)=decide (dL a14)
  rw [jH,Bool.and_true,Bool.and_true]
 ·replace hL:a6=[]:=hL
  replace hE:a7=zEn:=hE
  rw [hE,hL]
  show ((true&&true)&&cR zEn)=true
  rw [jH,Bool.and_true,Bool.and_true]
 ·replace hL:a6=[]:=hL
  replace hE:a7=zEn:=hE
  rw [hE,hL]
  show ((decide (dL a14)&&true)&&cR zEn)=decide (dL a14)
  rw [jH,Bool.and_true,Bool.and_true]
theorem aYu {a b:aB} (ha:iP a) (hb:iP b):sameM a b=sameM b a:=by
 rw [Bool.eq_iff_iff,aDL ha hb,aDL hb ha]; exact eq_comm
theorem aPr (hN:20≤N) {m:aB} (h:roomM N m):yM N m=some (bif hY m then 0 else 40):=by
 unfold yM
 by_cases hk:hJ m
 ·have hr:=aPq h hN
  rw [aYs hN hk h.2.2.1.1 h.2.2.1.2,Option.bind_some]
  show yL N m _=_
  rw [aYr hN hr]
  unfold hY
  rw [decide_eq_true hk,aYu (b:=dJ m) h.byt hr.byt]
  cases hs:sameM (dJ m) m with
  | false=>simp
  | true =>
   have he:m=dJ m:=((aDL hr.byt h.byt).1 hs).symm
   rw [← he,← sp_eq hk he]
   generalize (decide (eG m.From)&&decide (eG m.To))=p1
   generalize spM m=p2
   generalize numM m=p3
   generalize eL m.List_ 0 4096=p4
   generalize cR m.Entry=p5
   cases p1<;>cases p2<;>cases p3<;>cases p4<;>cases p5<;>rfl
 ·obtain ⟨b,hb⟩:=aYt hN hk
  rw [hb,Option.bind_some]
  unfold hY
  rw [decide_eq_false hk]
  rfl
theorem aYv {m:aB} (hk:hJ m):zL N m=some (dJ m,true):=by
 have hk':=xD hk
 obtain ⟨kd,a2,a3,a4,a5,a6,a7,a8,a9,a10,a11,a12,a13,a14⟩:=m
 simp only at hk'
 rcases hk' with rfl | rfl | rfl | rfl | rfl | rfl | rfl | rfl | rfl | rfl | rfl | rfl | rfl | rfl | rfl<;>rfl
theorem aYw {m:aB} (hk:¬ hJ m):∃ b,zL N m=some (b,false):=by
 have hne:∀ k:Int,1≤k→k≤15→(m.Kind==k)=false:=fun k h0 h8=>by
  refine beq_eq_false_iff_ne.2 fun h=>hk ?_
  unfold hJ; omega
 unfold zL
 rw [hne 1 (by decide) (by decide),hne 2 (by decide) (by decide),hne 3 (by decide) (by decide),hne 4 (by decide) (by decide),hne 5 (by decide) (by decide),hne 6 (by decide) (by decide),hne 7 (by decide) (by decide),hne 8 (by decide) (by decide),hne 9 (by decide) (by decide),hne 10 (by decide) (by decide),hne 11 (by decide) (by decide),hne 12 (by decide) (by decide),hne 13 (by decide) (by decide),hne 14 (by decide) (by decide),hne 15 (by decide) (by decide)]
 exact ⟨_,rfl⟩
theorem aYx (hN:20≤N) {m:aB} (h:roomM N m):zW N m=some (hY m):=by
 by_cases hk:hJ m
 ·have hr:=aPq h hN
  unfold zW
  rw [aYv hk,Option.bind_some]
  simp only [aYn h,aYe,Bool.not_true,Bool.not_false,Bool.false_or,cond_true,Option.bind_some,cL]
  unfold hY
  rw [decide_eq_true hk,Bool.true_and]
  cases hs:sameM m (dJ m) with
  | false=>rfl
  | true =>
   cases h1:decide (eG m.From) with
   | false=>rfl
   | true =>
    cases h2:decide (eG m.To) with
    | false=>rfl
    | true =>
     simp only [Bool.not_true,Bool.not_false,Bool.or_false,cond_true,cond_false,Bool.true_and,Bool.and_true]
     simp only [aPk,kX,aKF (N:=N) (by omega),aYq h.1,aPp h.2.1,nE,aO9 (N:=N) (l:=m.Ops) (by have:=h.2.2.1.1; omega) h.2.2.1.2,aPb (N:=N) (by omega),aPd,Option.bind_some,cL,dE]
     unfold numM sp2
     generalize decide (fQ m.Ballot)=p1
     generalize decide (cnt m.Slot)=p2
     generalize decide (cnt m.Number)=p3
     generalize decide (cnt m.Clock)=p4
     generalize decide (fB m.Vector_)=p5
     cases p1<;>cases p2<;>cases p3<;>cases p4<;>cases p5<;>first | rfl | skip
     simp only [Bool.not_true,Bool.not_false,Bool.or_false,cond_true,cond_false,Bool.true_and,Bool.and_true]
     cases (m.Kind==2)<;>cases (m.Kind==3)<;>cases (m.Kind==6)<;>cases (m.Kind==9)<;>cases (m.Kind==11)<;>cases (m.Kind==12)<;>cases (m.Kind==13)<;>cases (m.Kind==15)<;>rfl
 ·obtain ⟨b,hb⟩:=aYw (N:=N) hk
  unfold zW hY
  rw [hb,decide_eq_false hk]
  rfl
end
def aKK (m:aB):Nat:=m.List_.length+(m.List_.map fun x=>x.Entry.Ops.length).sum+m.Entry.Ops.length+m.Ops.length
theorem aPs {N:Nat} {e:aC} (h:wf41 e) (hN:e.Ops.length+60≤N):e.Ops.length+20≤N∧e.Ops.length≤9223372036854775807∧byt e.Part.Data:=by
 obtain ⟨_,_,_,_,_,_,h7,_,_,_,_,h12,_⟩:=h
 exact ⟨by omega,h7.1,h12.2.2.2.1.2⟩
theorem aPt {α:Type} (f:α→Nat):∀ {l:List α} {x:α},x∈l→f x≤(l.map f).sum
 | y :: l, x, h => by
  rcases List.mem_cons.1 h with rfl | h
  ·simp
  ·have:=aPt f h; simp only [List.map_cons,List.sum_cons]; omega
theorem aYy {N:Nat} {m:aB} (h:wf43 m) (hN:aKK m+60≤N):roomM N m:=by
 obtain ⟨_,_,_,_,_,h6,h7,_,_,_,_,h12,_,h14,_⟩:=h
 unfold aKK at hN
 refine ⟨⟨by omega,h6.1,fun x hx=>aPs (h6.2 x hx).2.2.1 ?_⟩,aPs h7 (by omega),⟨by omega,h12.1⟩,h14.2.2.2.1.2⟩
 have:=aPt (fun x:aQ=>x.Entry.Ops.length) hx
 omega
end Go.Proofs.YtddpmkmgbdedlaaGreat
