/-
Plain laws of another seat,turned to this one by wip/tools/ren2.py.
-/
import Derived.Test.YtddpmkmgbdedlaaGreatqFd
import Derived.Test.YtddpmkmgbdedlaaGreatqTvT
import Derived.Test.YtddpmkmgbdedlaaGreatqRd
import Derived.Test.YtddpmkmgbdedlaaGreatqTvT
import Derived.Laws.BitsAllLaws
set_option linter.unusedVariables false
set_option linter.unusedSimpArgs false
namespace Go.Proofs.YtddpmkmgbdedlaaGreat
open Go Go.Ev
def u5 (s:Int):Prop:=0≤s∧s < 4294967296
theorem Vo {a b:Int}(ha:u5 a)(hb:u5 b):u5 (bits .xor .u32 a b):=by
 rw[u32_xor a b ha.1 ha.2 hb.1 hb.2]
 have h1:=ha.1;have h2:=ha.2;have h3:=hb.1;have h4:=hb.2
 have:=Nat.xor_lt_two_pow (x:=a.toNat) (y:=b.toNat) (n:=32) (by omega) (by omega)
 exact⟨by omega,by omega⟩
theorem rn {s:Int}(h:u5 s):bits .and .u32 s 1=s % 2:=by
 rw[u32_and s 1 h.1 h.2 (by decide) (by decide)]
 have:(1:Int).toNat=1:=rfl
 rw[this,nat_mask1]
 have:=h.1
 omega
theorem vk (s:Int):shr .u32 s 1=s / 2:=by
 simp only[shr,IntKind.bits]
 rw[show (min (1:Int).toNat 32)=1 from rfl,Int.fdiv_eq_ediv_of_nonneg _ (by decide)]
 rfl
def QE (s:Int):Int:=if s % 2=1 then bits .xor .u32 (s / 2) 3988292384 else s / 2
theorem HJ {s:Int}(h:u5 s):u5 (QE s):=by
 have h1:=h.1;have h2:=h.2
 have hd:u5 (s / 2):=⟨by omega,by omega⟩
 unfold QE;split
 ·exact Vo hd ⟨by decide,by decide⟩
 ·exact hd
def Zl:Nat→Int→Int
 |0,s=>s
 |n+1,s=>Zl n (QE s)
def WZ (s b:Int):Int:=Zl 8 (bits .xor .u32 s b)
theorem VM:∀ (n:Nat) {s:Int},u5 s→u5 (Zl n s)
 |0,_,h=>h
 |n+1,_,h=>VM n (HJ h)
def uR (b:Int):Prop:=0≤b∧b≤255
theorem NN {s b:Int}(h:u5 s)(hb:uR b):u5 (WZ s b):=VM 8 (Vo h ⟨hb.1,by have:=hb.2;omega⟩)
theorem ZH:∀ (l:List Int) {s:Int},u5 s→(∀ b∈l,uR b)→u5 (l.foldl WZ s)
 |[],_,h,_=>h
 |b :: l,_,h,hb=>ZH l (NN h (hb b (by simp))) fun x hx=>hb x (by simp[hx])
def QG (l:List Int):Int:=bits .xor .u32 IntKind.u32.max (l.foldl WZ 4294967295)
def yW (u:Nat):List Int:=if h:u < 128 then [(u:Int)] else ((u % 128+128:Nat):Int) :: yW (u / 128)
 termination_by u
 decreasing_by omega
theorem QQ {u:Nat}(h:u < 128):yW u=[(u:Int)]:=by rw[yW,dif_pos h]
theorem QP {u:Nat}(h:128≤u):yW u=((u % 128+128:Nat):Int) :: yW (u / 128):=by rw[yW,dif_neg (by omega)]
theorem dx:∀ (k u:Nat),u < 128 ^ (k+1)→(yW u).length≤k+1
 |k,u,h=>by
  by_cases hu:u < 128
  ·rw[QQ hu];simp
  ·rw[QP (by omega)]
   cases k with
   |zero=>simp at h;omega
   |succ k =>
    have:u / 128 < 128 ^ (k+1):=by rw[Nat.div_lt_iff_lt_mul (by decide)];rw[← Nat.pow_succ];exact h
    have:=dx k _ this
    simp only[List.length_cons];omega
theorem jI {u:Nat}(h:u < 18446744073709551616):(yW u).length≤10:=dx 9 u (Nat.lt_trans h (by decide))
theorem J8:∀ (k u:Nat),u < 128 ^ (k+1)→∀ b∈yW u,uR b
 |k,u,h,b,hb=>by
  by_cases hu:u < 128
  ·rw[QQ hu]at hb;simp at hb;subst hb;exact⟨by omega,by omega⟩
  ·rw[QP (by omega)]at hb
   rcases List.mem_cons.1 hb with rfl|hb
   ·exact⟨by omega,by omega⟩
   ·cases k with
    |zero=>simp at h;omega
    |succ k =>
     have:u / 128 < 128 ^ (k+1):=by rw[Nat.div_lt_iff_lt_mul (by decide)];rw[← Nat.pow_succ];exact h
     exact J8 k _ this b hb
def VQ (n:Int):Nat:=if n < 0 then (-2 * n - 1).toNat else (2 * n).toNat
def Fi (n:Int):Prop:=-9223372036854775808≤n∧n≤9223372036854775807
theorem Lc {n:Int}(h:Fi n):VQ n < 18446744073709551616:=by have h1:=h.1;have h2:=h.2;unfold VQ;split<;>omega
theorem bg {x:Nat}(h:x < 18446744073709551616):18446744073709551615 ^^^ x=18446744073709551615 - x:=by
 have e1:18446744073709551615=2 ^ 64 - 1:=by decide
 have e2:18446744073709551615 - x=2 ^ 64 - (x+1):=by omega
 rw[e2,e1]
 refine Nat.eq_of_testBit_eq fun i=>?_
 rw[Nat.testBit_xor,Nat.testBit_two_pow_sub_one,Nat.testBit_two_pow_sub_succ (by omega)]
 by_cases hi:i < 64
 ·simp[hi]
 ·have:x.testBit i=false:=Nat.testBit_lt_two_pow (Nat.lt_of_lt_of_le (show x < 2 ^ 64 by omega) (Nat.pow_le_pow_right (by decide) (by omega)))
  simp[hi,this]
theorem J9 {x:Int}(h0:0≤x)(h:x < 18446744073709551616):bits .xor .u64 IntKind.u64.max x=18446744073709551615 - x:=by
 rw[u64_xor _ x (by decide) (by decide) h0 h]
 rw[show IntKind.u64.max.toNat=18446744073709551615 from rfl,bg (by omega)]
 omega
theorem J3 (a:Int):shl .u64 a 1=(a * 2) % 18446744073709551616:=by
 simp only[shl,IntKind.bits]
 rw[show (min (1:Int).toNat 64)=1 from rfl]
 simp[IntKind.wrap,IntKind.bits,IntKind.signed]
theorem aEB {a:Int}{k:Nat}(hk:k < 64):shr .u64 a (k:Int)=a / (2 ^ k:Nat):=by
 simp only[shr,IntKind.bits]
 rw[show (min (k:Int).toNat 64)=k by omega,Int.fdiv_eq_ediv_of_nonneg _ (by exact Int.pow_nonneg (by decide))]
 simp
theorem rG (n:Int):IntKind.u64.wrap n=n % 18446744073709551616:=by simp[IntKind.wrap,IntKind.bits,IntKind.signed]
theorem Tn (n:Int):IntKind.u8.wrap n=n % 256:=by simp[IntKind.wrap,IntKind.bits,IntKind.signed]
theorem aJr:∀ x:Fin 256,x.val ||| 128=x.val % 128+128:=by decide +kernel
theorem aCR (u:Int)(h:0≤u):bits .or .u8 (IntKind.u8.wrap u) 128=u % 128+128:=by
 rw[Tn,u8_or _ _ (by omega) (by omega) (by decide) (by decide)]
 have:=aJr ⟨(u % 256).toNat,by omega⟩
 simp only at this
 rw[show (128:Int).toNat=128 from rfl,this]
 omega
theorem aAQ {N:Nat}(hN:11≤N){u:Int}(h0:0≤u)(h1:u < 18446744073709551616):iter N (fun (s1:nZ) dK =>
   (bif (decide (128≤s1.u)) then
   (bif (dG ((s1.b).length+([(bits .or .u8 (IntKind.u8.wrap s1.u) 128)]).length) 1) then
   (dK ⟨(shr .u64 s1.u 7),(s1.b++[(bits .or .u8 (IntKind.u8.wrap s1.u) 128)])⟩)
   else none)
   else
   (bif (dG ((s1.b).length+([(IntKind.u8.wrap s1.u)]).length) 1) then
   (some (s1.b++[(IntKind.u8.wrap s1.u)]))
   else none))) ⟨u,[]⟩=some (yW u.toNat):=by
 refine dU (fun q:nZ=>0≤q.u∧q.u < 18446744073709551616∧q.b++yW q.u.toNat=yW u.toNat) (fun q=>(yW q.u.toNat).length) ?_ N _ ⟨h0,h1,by simp⟩ (by have:=jI (u:=u.toNat) (by omega);simp only;omega)
 rintro⟨q,b⟩ nx ⟨g0,g1,hq⟩ ih
 simp only at g0 g1 hq ih ⊢
 have hlen:=congrArg List.length hq
 have hv:=jI (u:=u.toNat) (by omega)
 rw[List.length_append]at hlen
 rw[dI (by simp;omega),dI (by simp;omega)]
 by_cases h:128≤q
 ·simp only[decide_eq_true h,cond_true,aCR q g0]
  have e7:shr .u64 q 7=q / 128:=aEB (k:=7) (by decide)
  rw[e7]
  have w7:=QP (u:=q.toNat) (by omega)
  have ed:(q / 128).toNat=q.toNat / 128:=by omega
  refine ih ⟨q / 128,b++[q % 128+128]⟩ ⟨by simp;omega,by simp;omega,?_⟩ ?_
  ·simp only
   have ec:((q.toNat % 128+128:Nat):Int)=q % 128+128:=by omega
   rw[ed,← hq,w7,List.append_assoc,ec]
   rfl
  ·simp only;rw[ed,w7];simp
 ·have hd:decide (128≤q)=false:=by simpa using h
  simp only[hd,cond_false,cond_true]
  rw[← hq,QQ (u:=q.toNat) (by omega),Tn]
  congr 3
  omega
theorem ft {N:Nat}(hN:11≤N){n:Int}(hn:Fi n):Cl N n=some (yW (VQ n)):=by
 have h1:=hn.1;have h2:=hn.2
 unfold Cl
 by_cases h:n < 0
 ·simp only[decide_eq_true h,cond_true]
  have e:bits .xor .u64 IntKind.u64.max (shl .u64 (IntKind.u64.wrap n) 1)=-2 * n - 1:=by
   rw[J3,rG,J9 (by omega) (by omega)];omega
  rw[e,aAQ hN (by omega) (by omega)]
  simp only[VQ,if_pos h]
 ·have hd:decide (n < 0)=false:=by simpa using h
  simp only[hd,cond_false]
  have e:shl .u64 (IntKind.u64.wrap n) 1=2 * n:=by rw[J3,rG];omega
  rw[e,aAQ hN (by omega) (by omega)]
  simp only[VQ,if_neg h]
theorem aAP {N:Nat}(hN:11≤N){u:Int}(h0:0≤u)(h1:u < 18446744073709551616):iter N (fun (s1:uP) dK =>
   (bif (decide (128≤s1.u)) then
   (bif (dG ((s1.b).length+([(IntKind.u8.wrap ((IntKind.u8.wrap (Int.tmod s1.u 128))+128))]).length) 1) then
   (dK ⟨(IntKind.u64.wrap (Int.tdiv s1.u 128)),(s1.b++[(IntKind.u8.wrap ((IntKind.u8.wrap (Int.tmod s1.u 128))+128))])⟩)
   else none)
   else
   (bif (dG ((s1.b).length+([(IntKind.u8.wrap s1.u)]).length) 1) then
   (some (s1.b++[(IntKind.u8.wrap s1.u)]))
   else none))) ⟨u,[]⟩=some (yW u.toNat):=by
 refine dU (fun q:uP=>0≤q.u∧q.u < 18446744073709551616∧q.b++yW q.u.toNat=yW u.toNat) (fun q=>(yW q.u.toNat).length) ?_ N _ ⟨h0,h1,by simp⟩ (by have:=jI (u:=u.toNat) (by omega);simp only;omega)
 rintro⟨q,b⟩ nx ⟨g0,g1,hq⟩ ih
 simp only at g0 g1 hq ih ⊢
 have hlen:=congrArg List.length hq
 have hv:=jI (u:=u.toNat) (by omega)
 rw[List.length_append]at hlen
 rw[dI (by simp;omega),dI (by simp;omega)]
 by_cases h:128≤q
 ·simp only[decide_eq_true h,cond_true]
  have e7:IntKind.u64.wrap (Int.tdiv q 128)=q / 128:=by rw[Int.tdiv_eq_ediv_of_nonneg g0,rG];omega
  have e8:IntKind.u8.wrap (IntKind.u8.wrap (Int.tmod q 128)+128)=q % 128+128:=by rw[Int.tmod_eq_emod_of_nonneg g0,Tn,Tn];omega
  rw[e7,e8]
  have w7:=QP (u:=q.toNat) (by omega)
  have ed:(q / 128).toNat=q.toNat / 128:=by omega
  refine ih ⟨q / 128,b++[q % 128+128]⟩ ⟨by simp;omega,by simp;omega,?_⟩ ?_
  ·simp only
   have ec:((q.toNat % 128+128:Nat):Int)=q % 128+128:=by omega
   rw[ed,← hq,w7,List.append_assoc,ec]
   rfl
  ·simp only;rw[ed,w7];simp
 ·have hd:decide (128≤q)=false:=by simpa using h
  simp only[hd,cond_false,cond_true]
  rw[← hq,QQ (u:=q.toNat) (by omega),Tn]
  congr 3
  omega
theorem XV {N:Nat}(hN:11≤N){n:Int}(hn:Fi n):Fg N n=some (yW (VQ n)):=by
 have h1:=hn.1;have h2:=hn.2
 unfold Fg
 by_cases h:n < 0
 ·simp only[decide_eq_true h,cond_true]
  have e:IntKind.u64.wrap (IntKind.u64.wrap (IntKind.u64.wrap (IntKind.i64.wrap (0 - IntKind.i64.wrap (n+1))) * 2)+1)=-2 * n - 1:=by
   rw[wrap64 (n:=n+1) (by omega) (by omega),wrap64 (by omega) (by omega),rG,rG,rG];omega
  rw[e,aAP hN (by omega) (by omega)]
  simp only[VQ,if_pos h]
 ·have hd:decide (n < 0)=false:=by simpa using h
  simp only[hd,cond_false]
  have e:IntKind.u64.wrap (IntKind.u64.wrap n * 2)=2 * n:=by rw[rG,rG];omega
  rw[e,aAP hN (by omega) (by omega)]
  simp only[VQ,if_neg h]
theorem K1 {N:Nat}{l:List Int}(h:l.length≤70368744177664):jY N l=some l:=by
 unfold jY xG
 rw[dI (by omega)]
 rfl
def Xl (w:List Int)(x:List Int):Int×Bool×List Int:=if w.length+x.length≤1048576 then (0,true,w++x) else (3,true,w)
theorem xg {N:Nat}{l:List (List Int)}{w:List Int}(hN:l.length < N)(hl:l.length≤1000000)(hw:w.length≤1048576)(hm:∀ m∈l,m.length≤4611686018427387904):nX N l true w=some (Xl w l.flatten):=by
 unfold nX mM
 simp only[Option.bind_some,Bool.not_true,cond_false]
 have second:w.length+l.flatten.length≤1048576→iter N (fun (s4:fW) bh =>
    (bif (decide (s4.t35 < ((l).length:Int))) then
    (bif (nI s4.t35 ((l).length:Int)) then
    (bif (dG ((s4.yJ).length+((aE l s4.t35 default)).length) 1) then
    (bh ⟨(IntKind.i64.wrap (s4.t35+1)),s4.b0,(s4.yJ++(aE l s4.t35 default))⟩)
    else none)
    else none)
    else
    (some ((0:Int),s4.b0,s4.yJ)))) ⟨0,true,w⟩=some (0,true,w++l.flatten):=fun htot=>by
  refine dU (fun q:fW=>0≤q.t35∧q.t35≤(l.length:Int)∧q.b0=true∧q.yJ++(l.drop q.t35.toNat).flatten=w++l.flatten) (fun q=>((l.length:Int) - q.t35).toNat) ?_ N _ ⟨by simp,by simp,rfl,by simp⟩ (by simp;omega)
  rintro⟨i,b0,b⟩ nx ⟨g0,g1,rfl,hq⟩ ih
  simp only at g0 g1 hq ih ⊢
  by_cases hi:i < l.length
  ·have hd:=dC (default:List Int) g0 hi
   rw[hd,List.flatten_cons]at hq
   have hlen:=congrArg List.length hq
   simp only[List.length_append]at hlen
   simp only[decide_eq_true hi,dT g0 hi,cond_true]
   rw[dI (by omega),wrap64 (by omega) (by omega)]
   exact ih ⟨i+1,true,b++aE l i default⟩ ⟨by simp;omega,by simp;omega,rfl,by simp only[List.append_assoc];exact hq⟩ (by simp;omega)
  ·have:decide (i < (l.length:Int))=false:=by simpa using hi
   simp only[this,cond_false]
   rw[List.drop_eq_nil_of_le (by omega)]at hq
   rw[← hq];simp
 refine dU (fun q:iX=>0≤q.t19∧q.t19≤(l.length:Int)∧0≤q.n∧q.n≤1048576∧q.n+(l.drop q.t19.toNat).flatten.length=w.length+l.flatten.length) (fun q=>((l.length:Int) - q.t19).toNat) ?_ N _ ⟨by simp,by simp,by simp,by simp;omega,by simp⟩ (by simp;omega)
 rintro⟨n,i⟩ nx ⟨g0,g1,g2,g3,hq⟩ ih
 simp only at g0 g1 g2 g3 hq ih ⊢
 by_cases hi:i < l.length
 ·have hd:=dC (default:List Int) g0 hi
  have hmi:=hm _ (jS (default:List Int) g0 hi)
  rw[hd,List.flatten_cons,List.length_append]at hq
  simp only[decide_eq_true hi,dT g0 hi,cond_true,Bool.cond_decide]
  rw[wrap64 (n:=1048576 - n) (by omega) (by omega)]
  split
  ·rename_i af
   rw[Xl,if_neg (by omega)]
  ·rename_i N7
   rw[wrap64 (by omega) (by omega),wrap64 (by omega) (by omega)]
   exact ih ⟨_,i+1⟩ ⟨by simp;omega,by simp;omega,by simp;omega,by simp;omega,by simp only;omega⟩ (by simp;omega)
 ·have:decide (i < (l.length:Int))=false:=by simpa using hi
  simp only[this,cond_false]
  rw[List.drop_eq_nil_of_le (by omega)]at hq
  simp only[List.flatten_nil,List.length_nil]at hq
  rw[Xl,if_pos (by omega)]
  exact second (by omega)
theorem xd {N:Nat}(hN:11≤N){n:Int}(hn:Fi n){w:List Int}(hw:w.length≤1048576):nW N n true w=some (Xl w (yW (VQ n))):=by
 have:=jI (Lc hn)
 unfold nW
 rw[ft hN hn,Option.bind_some,xg (by simp;omega) (by simp) hw (by intro m hm;simp at hm;subst hm;omega)]
 simp
theorem aEW {N:Nat}{w:List Int}(hw:w.length≤1048576):uM N true w=some (w,true,w):=by
 unfold uM mM
 simp only[Option.bind_some,Bool.not_true,cond_false]
 rw[K1 (by omega)];rfl
def VO (u:Nat):Int:=if u % 2=1 then -((u / 2:Nat):Int) - 1 else ((u / 2:Nat):Int)
def pv:Nat→Nat→List Int→Int×Int×Int
 |_,_,[]=>(0,0,10)
 |i,u,x :: r=>if i=9∧1 < x then (0,0,11) else if 128≤x then pv (i+1) (u+(x % 128).toNat * 128 ^ i) r else if x=0∧0 < i then (0,0,11) else (VO (u+x.toNat * 128 ^ i),(i:Int)+1,0)
theorem ko {k:Nat}(hk:k≤9):128 ^ k≤9223372036854775808:=by
 have:128 ^ k≤128 ^ 9:=Nat.pow_le_pow_right (by decide) hk
 exact Nat.le_trans this (by decide)
theorem R3 {a k:Nat}(ha:a < 128)(hk:k≤9)(h9:k=9→a≤1):a * 128 ^ k≤9223372036854775808:=by
 by_cases h:k=9
 ·subst h
  have:a * 128 ^ 9≤1 * 128 ^ 9:=Nat.mul_le_mul_right _ (h9 rfl)
  exact Nat.le_trans this (by decide)
 ·have h1:a * 128 ^ k≤128 * 128 ^ k:=Nat.mul_le_mul_right _ (by omega)
  have h2:128 * 128 ^ k=128 ^ (k+1):=by rw[Nat.pow_succ,Nat.mul_comm]
  exact Nat.le_trans (h2▸h1) (ko (by omega))
theorem aBs {a:Int}{k:Nat}(h0:0≤a)(ha:a < 128)(hk:k≤9)(h9:k=9→a≤1):shl .u64 a (IntKind.i64.wrap (7 * (k:Int)))=((a.toNat * 128 ^ k:Nat):Int):=by
 rw[wrap64 (by omega) (by omega)]
 simp only[shl,IntKind.bits]
 rw[show (min (7 * (k:Int)).toNat 64)=7 * k by omega,rG]
 have hp:=R3 (a:=a.toNat) (by omega) hk (fun h=>by have:=h9 h;omega)
 have e:a * 2 ^ (7 * k)=((a.toNat * 128 ^ k:Nat):Int):=by
  have e2:(128:Nat) ^ k=2 ^ (7 * k):=by rw[Nat.pow_mul]
  rw[e2]
  push_cast
  rw[Int.toNat_of_nonneg h0]
 rw[e]
 omega
theorem aCS {u a k:Nat}(hu:u < 128 ^ k)(hk:k≤9)(ha:a * 128 ^ k≤9223372036854775808):bits .or .u64 (u:Int) ((a * 128 ^ k:Nat):Int)=((u+a * 128 ^ k:Nat):Int):=by
 have hp:=ko hk
 rw[u64_or _ _ (by omega) (by omega) (by omega) (by omega)]
 have e2:(128:Nat) ^ k=2 ^ (7 * k):=by rw[Nat.pow_mul]
 have:=nat_join (7 * k) (a * 128 ^ k) u (by rw[e2];exact Nat.mul_mod_left _ _) (by rw[← e2];exact hu)
 rw[Int.toNat_natCast,Int.toNat_natCast,Nat.or_comm,this]
 omega
theorem xn {c:Int}(h:uR c):bits .and .u8 c 127=c % 128:=by
 have h0:=h.1;have h1:=h.2
 rw[u8_and c 127 h0 (by omega) (by decide) (by decide),show (127:Int).toNat=127 from rfl,nat_mask7]
 omega
theorem rp {v:Nat}(h:v < 18446744073709551616):bits .and .u64 (v:Int) 1=((v % 2:Nat):Int):=by
 rw[u64_and _ 1 (by omega) (by omega) (by decide) (by decide),show (1:Int).toNat=1 from rfl,Int.toNat_natCast,nat_mask1]
theorem vl (v:Nat):shr .u64 (v:Int) 1=((v / 2:Nat):Int):=by
 have:=aEB (a:=(v:Int)) (k:=1) (by decide)
 rw[show ((1:Nat):Int)=1 from rfl]at this
 rw[this];omega
theorem lv {u a k:Nat}(hu:u < 128 ^ k)(ha:a < 128)(hk:k≤9)(h9:k=9→a≤1):u+a * 128 ^ k < 18446744073709551616:=by
 have:=R3 ha hk h9
 have:=ko hk
 omega
theorem Q0 {u a k:Nat}(hu:u < 128 ^ k)(ha:a < 128):u+a * 128 ^ k < 128 ^ (k+1):=by
 have:a * 128 ^ k≤127 * 128 ^ k:=Nat.mul_le_mul_right _ (by omega)
 rw[Nat.pow_succ];omega
theorem fq {N:Nat}(hN:11≤N){b:List Int}(hl:b.length≤9223372036854775807)(hb:∀ x∈b,uR x):Gn N b=some (pv 0 0 b):=by
 unfold Gn
 refine dU (fun q:zC=>∃ k u:Nat,q.t8=k∧q.u=u∧k≤9∧u < 128 ^ k∧pv k u (b.drop k)=pv 0 0 b) (fun q=>(9 - q.t8).toNat) ?_ N _ ⟨0,0,rfl,rfl,by omega,by simp,rfl⟩ (by simp;omega)
 rintro⟨u',i'⟩ nx ⟨k,u,rfl,rfl,hk,hu,hq⟩ ih
 simp only at ih ⊢
 have hk10:decide ((k:Int) < 10)=true:=by simp;omega
 simp only[hk10,cond_true,Bool.cond_decide]
 split
 ·rename_i aCB
  rw[List.drop_eq_nil_of_le (by omega)]at hq
  rw[← hq,pv]
 ·rename_i nH
  have VY:(k:Int) < b.length:=by omega
  have hd:=dC (default:Int) (Int.natCast_nonneg k) VY
  have rZ:=hb _ (jS (default:Int) (Int.natCast_nonneg k) VY)
  rw[Int.toNat_natCast]at hd
  rw[hd]at hq
  generalize aE b (k:Int) default=c at hq rZ hd ⊢
  have h0:=rZ.1;have h1:=rZ.2
  rw[dT (Int.natCast_nonneg k) VY,xn rZ]
  simp only[cond_true]
  rw[pv]at hq
  by_cases G1:(((k:Int)==9)&&decide (1 < c) || (c==0)&&decide (0 < (k:Int)))=true
  ·rw[G1]
   simp only[cond_true]
   rw[← hq]
   simp only[Bool.or_eq_true,Bool.and_eq_true,beq_iff_eq,decide_eq_true_eq]at G1
   rcases G1 with⟨a1,a2⟩|⟨a1,a2⟩
   ·rw[if_pos ⟨by omega,a2⟩]
   ·by_cases h9:k=9∧1 < c
    ·rw[if_pos h9]
    ·rw[if_neg h9,if_neg (by omega),if_pos ⟨a1,by omega⟩]
  ·have hf:(((k:Int)==9)&&decide (1 < c) || (c==0)&&decide (0 < (k:Int)))=false:=by simpa using G1
   rw[hf]
   simp only[cond_false]
   have n1:¬ (k=9∧1 < c):=fun h=>G1 (by simp[h.1,h.2])
   have n2:¬ (c=0∧0 < k):=fun h=>G1 (by simp[h.1];omega)
   rw[if_neg n1]at hq
   have h7:0≤IntKind.i64.wrap (7 * (k:Int)):=by rw[wrap64 (by omega) (by omega)];omega
   rw[if_pos h7]
   have e0:IntKind.u64.wrap (c % 128)=c % 128:=by rw[rG];omega
   have hs:=aBs (a:=c % 128) (k:=k) (by omega) (by omega) hk (fun h=>by
    have:¬ 1 < c:=fun h'=>n1 ⟨h,h'⟩
    omega)
   have h9':k=9→(c % 128).toNat≤1:=fun h=>by
    have:¬ 1 < c:=fun h'=>n1 ⟨h,h'⟩
    omega
   have ho:=aCS hu hk (R3 (a:=(c % 128).toNat) (by omega) hk h9')
   have hV:=lv hu (a:=(c % 128).toNat) (by omega) hk h9'
   rw[e0,hs,ho]
   generalize hVe:u+(c % 128).toNat * 128 ^ k=v at hV hq ⊢
   split
   ·rename_i hc
    rw[if_neg (by omega),if_neg n2]at hq
    have ec:c.toNat=(c % 128).toNat:=by omega
    rw[ec,hVe]at hq
    rw[← hq,rp hV,vl]
    have ek:IntKind.i64.wrap ((k:Int)+1)=(k:Int)+1:=wrap64 (by omega) (by omega)
    rw[ek]
    unfold VO
    by_cases hodd:v % 2=1
    ·rw[hodd,if_pos rfl]
     rw[J9 (by omega) (by omega)]
     have:IntKind.i64.wrap (18446744073709551615 - ((v / 2:Nat):Int))=-((v / 2:Nat):Int) - 1:=by
      rw[IntKind.wrap]
      simp[IntKind.bits,IntKind.signed]
      split<;>omega
     rw[this];rfl
    ·have he:v % 2=0:=by omega
     rw[he,if_neg (by omega)]
     simp only[show (((0:Nat):Int)==1)=false from rfl,cond_false]
     rw[wrap64 (by omega) (by omega)]
   ·rename_i hc
    have ekk:((k:Int)+1).toNat=k+1:=by omega
    rw[if_pos (by omega),ekk]at hq
    rw[wrap64 (n:=(k:Int)+1) (by omega) (by omega)]
    have jm:k≠9:=fun h=>n1 ⟨h,by omega⟩
    exact ih ⟨(v:Int),(k:Int)+1⟩ ⟨k+1,v,by simp,rfl,by omega,hVe▸Q0 hu (by omega),hq⟩ (by simp;omega)
theorem VP {v:Nat}(h:v < 18446744073709551616):Fi (VO v):=by
 unfold VO;split<;>exact⟨by omega,by omega⟩
theorem aBf:∀ (r:List Int) (i u:Nat),(∀ x∈r,uR x)→i≤9→u < 128 ^ i →
  (∃ (n:Int) (k:Nat),pv i u r=(n,(k:Int),0)∧i < k∧k≤i+r.length∧Fi n)∨pv i u r=(0,0,10)∨pv i u r=(0,0,11)
 |[],i,u,_,_,_=>.inr (.inl (by rw[pv]))
 |x :: r,i,u,hb,hi,hu=>by
  have hx:=hb x (by simp)
  have h0:=hx.1;have h1:=hx.2
  rw[pv]
  by_cases h9:i=9∧1 < x
  ·rw[if_pos h9];exact .inr (.inr rfl)
  ·rw[if_neg h9]
   by_cases hc:128≤x
   ·rw[if_pos hc]
    have hi9:i≠9:=fun h=>h9 ⟨h,by omega⟩
    rcases aBf r (i+1) _ (fun y hy=>hb y (by simp[hy])) (by omega) (Q0 hu (a:=(x % 128).toNat) (by omega)) with⟨n,k,e,a1,a2,a3⟩|e|e
    ·exact .inl ⟨n,k,e,by omega,by simp only[List.length_cons];omega,a3⟩
    ·exact .inr (.inl e)
    ·exact .inr (.inr e)
   ·rw[if_neg hc]
    by_cases hz:x=0∧0 < i
    ·rw[if_pos hz];exact .inr (.inr rfl)
    ·rw[if_neg hz]
     refine .inl ⟨VO (u+x.toNat * 128 ^ i),i+1,by simp,by omega,by simp only[List.length_cons];omega,VP (lv (a:=x.toNat) hu (by omega) hi fun h=>?_)⟩
     have:¬ 1 < x:=fun h'=>h9 ⟨h,h'⟩
     omega
theorem aCX {b:List Int}(hb:∀ x∈b,uR x):0≤(pv 0 0 b).2.1∧(pv 0 0 b).2.1≤(b.length:Int)∧Fi (pv 0 0 b).1∧((pv 0 0 b).2.2≠0→(pv 0 0 b).1=0∧(pv 0 0 b).2.1=0):=by
 rcases aBf b 0 0 hb (by omega) (by simp) with⟨n,k,e,a1,a2,a3⟩|e|e
 ·rw[e];exact⟨by simp,by simp;omega,a3,fun h=>absurd rfl h⟩
 ·rw[e];exact⟨by simp,by simp,⟨by decide,by decide⟩,fun _=>⟨rfl,rfl⟩⟩
 ·rw[e];exact⟨by simp,by simp,⟨by decide,by decide⟩,fun _=>⟨rfl,rfl⟩⟩
def rI (b:List Int):Int×Int×List Int:=((pv 0 0 b).1,(pv 0 0 b).2.2,b.drop (pv 0 0 b).2.1.toNat)
def rB (b:List Int):List Int×Int×List Int :=
 if (pv 0 0 b).2.2≠0 then ([],(pv 0 0 b).2.2,b) else if (pv 0 0 b).1 < 0 then ([],11,b) else if (b.length:Int) - (pv 0 0 b).2.1 < (pv 0 0 b).1 then ([],10,b)
 else ((b.drop (pv 0 0 b).2.1.toNat).take (pv 0 0 b).1.toNat,0,b.drop ((pv 0 0 b).2.1+(pv 0 0 b).1).toNat)
theorem nm {b:List Int}(k:Int):cut b k (b.length:Int)=b.drop k.toNat:=by
 simp only[cut];rw[List.take_of_length_le (by simp)]
section
variable {N:Nat} {b:List Int}
theorem aEX (hN:11≤N)(hl:b.length≤70368744177664)(hb:∀ x∈b,uR x):uL N ⟨true,b⟩=some ((rI b).1,(rI b).2.1,⟨true,(rI b).2.2⟩):=by
 obtain⟨a1,a2,_,_⟩:=aCX hb
 unfold uL iB
 simp only[Option.bind_some,Bool.not_true,cond_false,fq hN (by omega) hb]
 rw[AF a1 a2 (Int.le_refl _),nm];rfl
theorem xc (hN:11≤N)(hl:b.length≤70368744177664)(hb:∀ x∈b,uR x):lB N ⟨true,b⟩=some ((rB b).1,(rB b).2.1,⟨true,(rB b).2.2⟩):=by
 obtain⟨a1,a2,a3,_⟩:=aCX hb
 have a4:=a3.1;have a5:=a3.2
 unfold lB iB rB
 simp only[Option.bind_some,Bool.not_true,cond_false,fq hN (show b.length≤9223372036854775807 by omega) hb]
 generalize hp:pv 0 0 b=p at a1 a2 a4 a5 ⊢
 by_cases he:p.2.2=0
 ·rw[if_neg (by simpa using he)]
  have:(!(p.2.2==0))=false:=by simp[he]
  rw[this]
  simp only[cond_false]
  by_cases hn:p.1 < 0
  ·rw[if_pos hn];simp only[decide_eq_true hn,cond_true]
  ·rw[if_neg hn]
   have hd:decide (p.1 < 0)=false:=by simpa using hn
   simp only[hd,cond_false]
   rw[wrap64 (n:=(b.length:Int) - p.2.1) (by omega) (by omega)]
   by_cases af:(b.length:Int) - p.2.1 < p.1
   ·rw[if_pos af];simp only[decide_eq_true af,cond_true]
   ·rw[if_neg af]
    have hd:decide ((b.length:Int) - p.2.1 < p.1)=false:=by simpa using af
    simp only[hd,cond_false]
    rw[wrap64 (n:=p.2.1+p.1) (by omega) (by omega)]
    rw[AF a1 (by omega) (by omega),AF (by omega) (by omega) (Int.le_refl _),nm]
    have ec:cut b p.2.1 (p.2.1+p.1)=(b.drop p.2.1.toNat).take p.1.toNat:=by
     simp only[cut];congr 1;omega
    rw[ec,K1 (by simp;omega)];rfl
 ·rw[if_pos he]
  have:(!(p.2.2==0))=true:=by simpa using he
  rw[this];rfl
end
theorem uw (b:List Int):(rI b).2.2 <:+ b:=List.drop_suffix _ _
theorem I7 (b:List Int):(rB b).2.2 <:+ b:=by
 unfold rB;(repeat' split)<;>first|exact List.suffix_rfl|exact List.drop_suffix _ _
theorem vp {c b:List Int}(h:c <:+ b)(hl:b.length≤70368744177664)(hb:∀ x∈b,uR x):c.length≤70368744177664∧∀ x∈c,uR x :=
 ⟨Nat.le_trans h.length_le hl,fun x hx=>hb x (h.subset hx)⟩
theorem TT {l:List Int}(h:∀ x∈l,uR x):Kf (QF l)=l:=by
 induction l with
 |nil=>rfl
 |cons b l ih =>
  have hb:=h b (by simp)
  have:=hb.1;have:=hb.2
  have e:((UInt8.ofNat b.toNat).toNat:Int)=b:=by
   rw[UInt8.toNat_ofNat']
   omega
  have ih':=ih fun x hx=>h x (by simp[hx])
  simp only[Kf,QF,List.map_cons,List.map_map]at ih' ⊢
  rw[ih',e]
theorem Ke {n:Nat}(h:n≤1048576):Fi (n:Int):=⟨by omega,by omega⟩
section
variable {N:Nat} {w:List Int}
theorem xe (hN:11≤N){b:List Int}(hb:b.length≤1048576)(hw:w.length≤1048576):lD N b true w=some (Xl w (yW (VQ (b.length:Int))++b)):=by
 have:=jI (Lc (Ke hb))
 unfold lD
 rw[ft hN (Ke hb),Option.bind_some,xg (by simp;omega) (by simp) hw (by intro m hm;simp at hm;rcases hm with rfl|rfl<;>omega)]
 simp
theorem xf (hN:11≤N){b:List Int}(hb:b.length≤1048576):uI N b=some (yW (VQ (b.length:Int))++b):=by
 have:=jI (Lc (Ke hb))
 unfold uI
 rw[XV hN (Ke hb),Option.bind_some,dI (by omega)];rfl
end
theorem aBo {N:Nat}(hN:8 < N){X:Type}(k:Int→Option X){s:Int}(hs:u5 s):iter N (fun (s5:uQ) KT =>
   (bif (decide (s5.t25 < 8)) then
   (bif ((bits .and .u32 s5.sum 1)==1) then
   (KT ⟨(bits .xor .u32 (shr .u32 s5.sum 1) 3988292384),(IntKind.i64.wrap (s5.t25+1))⟩)
   else
   (KT ⟨(shr .u32 s5.sum 1),(IntKind.i64.wrap (s5.t25+1))⟩))
   else (k s5.sum))) ⟨s,0⟩=k (Zl 8 s):=by
 refine dU (fun q:uQ=>0≤q.t25∧q.t25≤8∧u5 q.sum∧Zl (8 - q.t25).toNat q.sum=Zl 8 s) (fun q=>(8 - q.t25).toNat) ?_ N _ ⟨by simp,by simp,hs,rfl⟩ (by simp;omega)
 rintro⟨q,i⟩ nx ⟨h0,h8,hr,hq⟩ ih
 simp only at h0 h8 hr hq ih ⊢
 by_cases hi:i < 8
 ·simp only[decide_eq_true hi,cond_true,rn hr,vk]
  rw[wrap64 (by omega) (by omega)]
  have Yf:Zl (8 - (i+1)).toNat (QE q)=Zl 8 s:=by
   rw[← hq]
   have:(8 - i).toNat=(8 - (i+1)).toNat+1:=by omega
   rw[this];rfl
  have ZM:=ih ⟨QE q,i+1⟩ ⟨by simp;omega,by simp;omega,HJ hr,Yf⟩ (by simp;omega)
  rw[← ZM]
  unfold QE
  by_cases h1:q % 2=1
  ·have:(q % 2==1)=true:=by simpa using h1
   rw[this,if_pos h1];rfl
  ·have:(q % 2==1)=false:=by simpa using h1
   rw[this,if_neg h1];rfl
 ·have:decide (i < 8)=false:=by simpa using hi
  simp only[this,cond_false]
  have:(8 - i).toNat=0:=by omega
  rw[this]at hq
  rw[← hq];rfl
theorem aBp {N:Nat}(hN:8 < N){X:Type}(k:Int→Option X){s:Int}(hs:u5 s):iter N (fun (s3:xJ) Iw =>
   (bif (decide (s3.k < 8)) then
   (bif ((Int.tmod s3.sum 2)==1) then
   (Iw ⟨(bits .xor .u32 (IntKind.u32.wrap (Int.tdiv s3.sum 2)) 3988292384),(IntKind.i64.wrap (s3.k+1))⟩)
   else
   (Iw ⟨(IntKind.u32.wrap (Int.tdiv s3.sum 2)),(IntKind.i64.wrap (s3.k+1))⟩))
   else (k s3.sum))) ⟨s,0⟩=k (Zl 8 s):=by
 refine dU (fun q:xJ=>0≤q.k∧q.k≤8∧u5 q.sum∧Zl (8 - q.k).toNat q.sum=Zl 8 s) (fun q=>(8 - q.k).toNat) ?_ N _ ⟨by simp,by simp,hs,rfl⟩ (by simp;omega)
 rintro⟨q,i⟩ nx ⟨h0,h8,hr,hq⟩ ih
 simp only at h0 h8 hr hq ih ⊢
 have hr1:=hr.1;have hr2:=hr.2
 by_cases hi:i < 8
 ·simp only[decide_eq_true hi,cond_true,Int.tmod_eq_emod_of_nonneg hr1,Int.tdiv_eq_ediv_of_nonneg hr1]
  rw[wrap64 (by omega) (by omega),U8 (by omega) (by omega)]
  have Yf:Zl (8 - (i+1)).toNat (QE q)=Zl 8 s:=by
   rw[← hq]
   have:(8 - i).toNat=(8 - (i+1)).toNat+1:=by omega
   rw[this];rfl
  have ZM:=ih ⟨QE q,i+1⟩ ⟨by simp;omega,by simp;omega,HJ hr,Yf⟩ (by simp;omega)
  rw[← ZM]
  unfold QE
  by_cases h1:q % 2=1
  ·have:(q % 2==1)=true:=by simpa using h1
   rw[this,if_pos h1];rfl
  ·have:(q % 2==1)=false:=by simpa using h1
   rw[this,if_neg h1];rfl
 ·have:decide (i < 8)=false:=by simpa using hi
  simp only[this,cond_false]
  have:(8 - i).toNat=0:=by omega
  rw[this]at hq
  rw[← hq];rfl
theorem aCe {N:Nat}(hN:8 < N){X:Type}(k:Int→Option X){l:List Int}(hl:l.length < N)(aCE:l.length≤9223372036854775807)(hb:∀ b∈l,uR b){s:Int}(hs:u5 s) :
  iter N (fun (s3:Bd) Iw =>
   (bif (decide (s3.t17 < ((l).length:Int))) then
   (bif (nI s3.t17 ((l).length:Int)) then
   (iter N (fun (s5:uQ) KT =>
   (bif (decide (s5.t25 < 8)) then
   (bif ((bits .and .u32 s5.sum 1)==1) then
   (KT ⟨(bits .xor .u32 (shr .u32 s5.sum 1) 3988292384),(IntKind.i64.wrap (s5.t25+1))⟩)
   else
   (KT ⟨(shr .u32 s5.sum 1),(IntKind.i64.wrap (s5.t25+1))⟩))
   else
   (Iw ⟨s5.sum,(IntKind.i64.wrap (s3.t17+1))⟩))) ⟨(bits .xor .u32 s3.sum (IntKind.u32.wrap (aE l s3.t17 default))),0⟩)
   else none)
   else (k s3.sum))) ⟨s,0⟩=k (l.foldl WZ s):=by
 refine dU (fun q:Bd=>0≤q.t17∧q.t17≤(l.length:Int)∧u5 q.sum∧(l.drop q.t17.toNat).foldl WZ q.sum=l.foldl WZ s) (fun q=>((l.length:Int) - q.t17).toNat) ?_ N _ ⟨by simp,by simp,hs,by simp⟩ (by simp;omega)
 rintro⟨q,i⟩ nx ⟨h0,h8,hr,hq⟩ ih
 simp only at h0 h8 hr hq ih ⊢
 by_cases hi:i < l.length
 ·have ov:=hb _ (jS (default:Int) h0 hi)
  simp only[decide_eq_true hi,cond_true,dT h0 hi]
  rw[U8 ov.1 (by have:=ov.2;omega)]
  rw[aBo hN (fun t=>nx ⟨t,IntKind.i64.wrap (i+1)⟩) (Vo hr ⟨ov.1,by have:=ov.2;omega⟩)]
  rw[wrap64 (by omega) (by omega)]
  refine ih ⟨WZ q (aE l i default),i+1⟩ ⟨by simp;omega,by simp;omega,NN hr ov,?_⟩ (by simp;omega)
  rw[← hq,dC (default:Int) h0 hi,List.foldl_cons]
 ·have:decide (i < (l.length:Int))=false:=by simpa using hi
  simp only[this,cond_false]
  rw[List.drop_eq_nil_of_le (by omega)]at hq
  rw[← hq];rfl
theorem aEV {N:Nat}{l:List Int}(hN:l.length+9≤N)(aCE:l.length≤9223372036854775807)(hb:∀ b∈l,uR b):Zu N l=some (QG l):=by
 unfold Zu
 refine dU (fun q:Cm=>0≤q.i∧q.i≤(l.length:Int)∧u5 q.sum∧(l.drop q.i.toNat).foldl WZ q.sum=l.foldl WZ 4294967295) (fun q=>((l.length:Int) - q.i).toNat) ?_ N _ ⟨by simp,by simp,⟨by decide,by decide⟩,by simp⟩ (by simp;omega)
 rintro⟨q,i⟩ nx ⟨h0,h8,hr,hq⟩ ih
 simp only at h0 h8 hr hq ih ⊢
 by_cases hi:i < l.length
 ·have ov:=hb _ (jS (default:Int) h0 hi)
  simp only[decide_eq_true hi,cond_true,dT h0 hi]
  rw[U8 ov.1 (by have:=ov.2;omega)]
  rw[aBp (by omega) (fun t=>nx ⟨t,IntKind.i64.wrap (i+1)⟩) (Vo hr ⟨ov.1,by have:=ov.2;omega⟩)]
  rw[wrap64 (by omega) (by omega)]
  refine ih ⟨WZ q (aE l i default),i+1⟩ ⟨by simp;omega,by simp;omega,NN hr ov,?_⟩ (by simp;omega)
  rw[← hq,dC (default:Int) h0 hi,List.foldl_cons]
 ·have:decide (i < (l.length:Int))=false:=by simpa using hi
  simp only[this,cond_false]
  rw[List.drop_eq_nil_of_le (by omega)]at hq
  rw[QG,← hq];rfl
theorem xb {N:Nat}{l:List (List Int)}(hN:l.length+9≤N)(aCE:l.length≤9223372036854775807)(hb:∀ m∈l,m.length+9≤N∧m.length≤9223372036854775807∧∀ b∈m,uR b):Xy N l=some (QG l.flatten):=by
 unfold Xy
 refine dU (fun q:Gp=>0≤q.t11∧q.t11≤(l.length:Int)∧u5 q.sum∧(l.drop q.t11.toNat).flatten.foldl WZ q.sum=l.flatten.foldl WZ 4294967295) (fun q=>((l.length:Int) - q.t11).toNat) ?_ N _ ⟨by simp,by simp,⟨by decide,by decide⟩,by simp⟩ (by simp;omega)
 rintro⟨q,i⟩ nx ⟨h0,h8,hr,hq⟩ ih
 simp only at h0 h8 hr hq ih ⊢
 by_cases hi:i < l.length
 ·obtain⟨m1,m2,m3⟩:=hb _ (jS (default:List Int) h0 hi)
  simp only[decide_eq_true hi,cond_true,dT h0 hi]
  rw[aCe (by omega) (fun t=>nx ⟨t,IntKind.i64.wrap (i+1)⟩) (by omega) m2 m3 hr]
  rw[wrap64 (by omega) (by omega)]
  refine ih ⟨_,i+1⟩ ⟨by simp;omega,by simp;omega,ZH _ hr m3,?_⟩ (by simp;omega)
  rw[← hq,dC (default:List Int) h0 hi,List.flatten_cons,List.foldl_append]
 ·have:decide (i < (l.length:Int))=false:=by simpa using hi
  simp only[this,cond_false]
  rw[List.drop_eq_nil_of_le (by omega)]at hq
  rw[QG,← hq];rfl
theorem ck:∀ (r:List Int) (i u:Nat) (n k:Int),(∀ x∈r,uR x)→i≤9→u < 128 ^ i→pv i u r=(n,k,0) →
  ∃ (v:Nat) (rest:List Int),r=yW v++rest∧n=VO (u+v * 128 ^ i)∧k=(i:Int)+(yW v).length∧u+v * 128 ^ i < 18446744073709551616∧(0 < i→0 < v)
 |[],i,u,n,k,_,_,_,h=>by rw[pv]at h;cases h
 |x :: r,i,u,n,k,hb,hi,hu,h=>by
  have hx:=hb x (by simp)
  have h0:=hx.1;have h1:=hx.2
  rw[pv]at h
  by_cases h9:i=9∧1 < x
  ·rw[if_pos h9]at h;cases h
  ·rw[if_neg h9]at h
   by_cases hc:128≤x
   ·rw[if_pos hc]at h
    have hi9:i≠9:=fun h=>h9 ⟨h,by omega⟩
    obtain⟨v,rest,e1,e2,e3,e4,e5⟩:=ck r (i+1) _ n k (fun y hy=>hb y (by simp[hy])) (by omega) (Q0 hu (a:=(x % 128).toNat) (by omega)) h
    have hv:=e5 (by omega)
    have ed:((x % 128).toNat+128 * v) / 128=v:=by omega
    have em:((x % 128).toNat+128 * v) % 128=(x % 128).toNat:=by omega
    have es:u+((x % 128).toNat+128 * v) * 128 ^ i=u+(x % 128).toNat * 128 ^ i+v * 128 ^ (i+1):=by
     rw[Nat.add_mul,Nat.pow_succ,Nat.mul_comm (128 ^ i) 128,← Nat.mul_assoc,Nat.mul_comm v 128];omega
    have ev:yW ((x % 128).toNat+128 * v)=x :: yW v:=by
     rw[QP (by omega),ed,em]
     congr 1;omega
    refine⟨(x % 128).toNat+128 * v,rest,by rw[ev,e1];rfl,by rw[es];exact e2,?_,by rw[es];exact e4,fun _=>by omega⟩
    rw[ev,List.length_cons,e3];push_cast;omega
   ·rw[if_neg hc]at h
    by_cases hz:x=0∧0 < i
    ·rw[if_pos hz]at h;cases h
    ·rw[if_neg hz]at h
     cases h
     have hs:=lv hu (a:=x.toNat) (by omega) hi (fun h=>by
      have:¬ 1 < x:=fun h'=>h9 ⟨h,h'⟩
      omega)
     have ev:yW x.toNat=[x]:=by rw[QQ (by omega)];congr 1;omega
     refine⟨x.toNat,r,by rw[ev];rfl,rfl,by rw[ev];simp,hs,fun hi0=>?_⟩
     have:¬ x=0:=fun h'=>hz ⟨h',hi0⟩
     omega
theorem wa (v:Nat):VQ (VO v)=v:=by unfold VQ VO;split<;>split<;>omega
theorem aGu {c:List Int}(hb:∀ x∈c,uR x)(h:(pv 0 0 c).2.2=0):∃ rest,c=yW (VQ (pv 0 0 c).1)++rest∧(pv 0 0 c).2.1=((yW (VQ (pv 0 0 c).1)).length:Int)∧Fi (pv 0 0 c).1:=by
 obtain⟨v,rest,e1,e2,e3,e4,_⟩:=ck c 0 0 (pv 0 0 c).1 (pv 0 0 c).2.1 hb (by omega) (by simp) (by rw[← h])
 simp only[Nat.pow_zero,Nat.mul_one,Nat.zero_add]at e2 e4
 have ez:VQ (pv 0 0 c).1=v:=by rw[e2,wa]
 refine⟨rest,by rw[ez];exact e1,by rw[ez,e3];simp,?_⟩
 rw[e2];exact VP e4
section
variable {c:List Int} (hb:∀ x∈c,uR x)
theorem aGw (hb:∀ x∈c,uR x)(h:(rI c).2.1=0):c=yW (VQ (rI c).1)++(rI c).2.2∧Fi (rI c).1:=by
 obtain⟨rest,e1,e2,e3⟩:=aGu hb h
 refine⟨?_,e3⟩
 unfold rI
 simp only[e2,Int.toNat_natCast]
 conv=>lhs;rw[e1]
 congr 1
 conv=>rhs;rw[e1]
 rw[show (pv 0 0 (yW (VQ (pv 0 0 c).1)++rest)).1=(pv 0 0 c).1 by rw[← e1]]
 simp
theorem aGv (hb:∀ x∈c,uR x)(h:(rB c).2.1=0):c=yW (VQ ((rB c).1.length:Int))++(rB c).1++(rB c).2.2∧(rB c).1.length≤c.length:=by
 unfold rB at h ⊢
 by_cases h0:(pv 0 0 c).2.2=0
 ·rw[if_neg (by simpa using h0)]at h ⊢
  by_cases h1:(pv 0 0 c).1 < 0
  ·rw[if_pos h1]at h;cases h
  ·rw[if_neg h1]at h ⊢
   by_cases h2:(c.length:Int) - (pv 0 0 c).2.1 < (pv 0 0 c).1
   ·rw[if_pos h2]at h;cases h
   ·rw[if_neg h2]
    obtain⟨a1,a2,_,_⟩:=aCX hb
    have hI:=(aGw hb (show (rI c).2.1=0 from h0)).1
    unfold rI at hI
    simp only at hI ⊢
    have hl:((c.drop (pv 0 0 c).2.1.toNat).take (pv 0 0 c).1.toNat).length=(pv 0 0 c).1.toNat:=by simp only[List.length_take,List.length_drop];omega
    have hz:(((c.drop (pv 0 0 c).2.1.toNat).take (pv 0 0 c).1.toNat).length:Int)=(pv 0 0 c).1:=by omega
    rw[hz,List.append_assoc]
    refine⟨?_,by omega⟩
    have:((pv 0 0 c).2.1+(pv 0 0 c).1).toNat=(pv 0 0 c).2.1.toNat+(pv 0 0 c).1.toNat:=by omega
    rw[this,← List.drop_drop,List.take_append_drop]
    exact hI
 ·rw[if_pos h0]at h;exact absurd h h0
end
def four (s:Int):List Int:=[IntKind.u8.wrap s,IntKind.u8.wrap (shr .u32 s 8),IntKind.u8.wrap (shr .u32 s 16),IntKind.u8.wrap (shr .u32 s 24)]
theorem ZI (s:Int):(four s).length=4:=rfl
theorem te (s:Int):∀ b∈four s,uR b:=by
 intro b hb
 simp only[four,List.mem_cons,List.mem_nil_iff,or_false]at hb
 rcases hb with rfl|rfl|rfl|rfl<;>exact KY _
def qN (b:List Int):List Int:=yW (VQ (b.length:Int))++b++four (QG b)
theorem si {N:Nat}{l:List (List Int)}(hN:l.length < N)(hl:l.length≤1000000)(hf:l.flatten.length≤70368744177664):∃ r,oL N l=some r∧(r.1≤r.2.length∧r.2.take r.1=l.flatten):=by
 unfold oL
 refine rM (fun q:gG=>0≤q.t11∧q.t11≤(l.length:Int)∧0≤q.size∧q.size+(l.drop q.t11.toNat).flatten.length=l.flatten.length) (fun q=>((l.length:Int) - q.t11).toNat) _ ?_ N _ ⟨by simp,by simp,by simp,by simp⟩ (by simp;omega)
 rintro⟨size,i⟩ nx ⟨g0,g1,g2,hq⟩ ih
 simp only at g0 g1 g2 hq ih ⊢
 by_cases hi:i < l.length
 ·have hd:=dC (default:List Int) g0 hi
  rw[hd,List.flatten_cons,List.length_append]at hq
  simp only[decide_eq_true hi,dT g0 hi,cond_true]
  rw[wrap64 (n:=size+_) (by omega) (by omega),wrap64 (by omega) (by omega)]
  have:decide (size+((aE l i default).length:Int) < 0)=false:=by simp;omega
  simp only[this,cond_false]
  exact ih ⟨_,i+1⟩ ⟨by simp;omega,by simp;omega,by simp;omega,by simp only;omega⟩ (by simp;omega)
 ·have:decide (i < (l.length:Int))=false:=by simpa using hi
  simp only[this,cond_false]
  rw[List.drop_eq_nil_of_le (by omega)]at hq
  simp only[List.flatten_nil,List.length_nil]at hq
  have h53:∃ g,sM N size=some (0,g):=by
   unfold sM
   have h0:decide (size < 0)=false:=by simp;omega
   simp only[h0,cond_false,Int.sub_zero]
   rw[wrap64 (by omega) (by omega)]
   by_cases hs:0 < size
   ·have:wu size 1=true:=by simp[wu];omega
    simp only[decide_eq_true hs,cond_true,this]
    rw[AF (Int.le_refl _) (Int.le_refl _) (by omega)]
    exact⟨_,rfl⟩
   ·have:decide (0 < size)=false:=by simpa using hs
    simp only[this,cond_false]
    exact⟨_,rfl⟩
  obtain⟨g,hg⟩:=h53
  rw[hg,Option.bind_some]
  refine rM (fun q:fU=>0≤q.t27∧q.t27≤(l.length:Int)∧q.Lv≤q.g1.length∧q.g1.take q.Lv++(l.drop q.t27.toNat).flatten=l.flatten) (fun q=>((l.length:Int) - q.t27).toNat) _ ?_ N _ ⟨by simp,by simp,by simp,by simp⟩ (by simp;omega)
  rintro⟨n,j,g1⟩ nx ⟨k0,k1,k2,hq⟩ ih
  simp only at k0 k1 k2 hq ih ⊢
  by_cases hj:j < l.length
  ·have hd:=dC (default:List Int) k0 hj
   rw[hd,List.flatten_cons]at hq
   have hlen:=congrArg List.length hq
   simp only[List.length_append,List.length_take,Nat.min_eq_left k2]at hlen
   simp only[decide_eq_true hj,dT k0 hj,cond_true]
   rw[dI (by omega),Nat.ble_eq_true_of_le k2,wrap64 (by omega) (by omega)]
   simp only[Bool.and_self,cond_true]
   refine ih ⟨_,j+1,_⟩ ⟨by simp;omega,by simp;omega,by simp;omega,?_⟩ (by simp;omega)
   simp only
   rw[List.take_of_length_le (by simp;omega),List.append_assoc]
   exact hq
  ·have:decide (j < (l.length:Int))=false:=by simpa using hj
   simp only[this,cond_false]
   rw[List.drop_eq_nil_of_le (by omega)]at hq
   exact⟨_,rfl,k2,by simpa using hq⟩
section
variable {N:Nat} {b:List Int}
theorem aEY (hN:b.length+20≤N)(hb:∀ x∈b,uR x):Om N b=some (if 1048576 < b.length then ([],3) else (qN b,0)):=by
 unfold Om
 by_cases h:1048576 < b.length
 ·have:decide (1048576 < (b.length:Int))=true:=by simp;omega
  rw[if_pos h,this];rfl
 ·have hd:decide (1048576 < (b.length:Int))=false:=by simp;omega
  have hr:Fi (b.length:Int):=⟨by omega,by omega⟩
  have hv:=jI (Lc hr)
  rw[if_neg h,hd]
  simp only[cond_false]
  rw[aEV (by omega) (by omega) hb,Option.bind_some]
  have h36:uI N b=some (yW (VQ (b.length:Int))++b):=by
   unfold uI
   rw[XV (by omega) hr,Option.bind_some,dI (by omega)];rfl
  rw[h36,Option.bind_some,dI (by simp;omega)]
  rfl
def u0 (b:List Int):List Int×Int×Int :=
 if (pv 0 0 b).2.2≠0 then ([],0,(pv 0 0 b).2.2) else
 if (pv 0 0 b).1 < 0 then ([],0,11) else
 if 1048576 < (pv 0 0 b).1 then ([],0,3) else
 if (b.length:Int) - (pv 0 0 b).2.1 < (pv 0 0 b).1+4 then ([],0,10) else
 if ((b.drop ((pv 0 0 b).2.1+(pv 0 0 b).1).toNat).take 4)=four (QG ((b.drop (pv 0 0 b).2.1.toNat).take (pv 0 0 b).1.toNat)) then
  ((b.drop (pv 0 0 b).2.1.toNat).take (pv 0 0 b).1.toNat,(pv 0 0 b).2.1+(pv 0 0 b).1+4,0) else ([],0,12)
theorem aE0 {c d:List Int}(hN:c.length < N)(hc:c.length≤9223372036854775000):xH N c d=some (decide (c=d)):=by
 unfold xH
 by_cases hl:c.length=d.length
 ·have:(!((c.length:Int)==(d.length:Int)))=false:=by simp[hl]
  rw[this]
  simp only[cond_false]
  refine dU (fun q:kJ=>0≤q.t13∧q.t13≤(c.length:Int)∧(c.drop q.t13.toNat=d.drop q.t13.toNat↔c=d)) (fun q=>((c.length:Int) - q.t13).toNat) ?_ N _ ⟨by simp,by simp,by simp⟩ (by simp;omega)
  rintro⟨i⟩ nx ⟨g0,g1,hq⟩ ih
  simp only at g0 g1 hq ih ⊢
  by_cases hi:i < c.length
  ·have FK:i < d.length:=by omega
   rw[dC (default:Int) g0 hi,dC (default:Int) g0 FK]at hq
   simp only[decide_eq_true hi,dT g0 hi,dT g0 FK,cond_true]
   by_cases he:aE c i default=aE d i default
   ·have:(!(aE c i default==aE d i default))=false:=by simp only[he,beq_self_eq_true,Bool.not_true]
    rw[this,wrap64 (by omega) (by omega)]
    simp only[cond_false]
    exact ih ⟨i+1⟩ ⟨by simp;omega,by simp;omega,by simp only;rw[← hq,he];simp⟩ (by simp;omega)
   ·have:(!(aE c i default==aE d i default))=true:=by rw[beq_eq_false_iff_ne.2 he];rfl
    rw[this]
    simp only[cond_true]
    have:c≠d:=fun e=>he (by rw[e])
    simp[this]
  ·have:decide (i < (c.length:Int))=false:=by simpa using hi
   simp only[this,cond_false]
   rw[List.drop_eq_nil_of_le (by omega),List.drop_eq_nil_of_le (by omega)]at hq
   simp[hq.1 rfl]
 ·have:(!((c.length:Int)==(d.length:Int)))=true:=by simp;omega
  rw[this]
  have:c≠d:=fun e=>hl (by rw[e])
  simp[this]
theorem zc {b:List Int}{i n:Int}(h0:0≤i)(hn:0≤n):cut b i (i+n)=(b.drop i.toNat).take n.toNat:=by
 simp only[cut];congr 1;omega
theorem aEZ (hN:b.length+20≤N)(hl:b.length≤70368744177664)(hb:∀ x∈b,uR x):Ld N b=some (u0 b):=by
 obtain⟨a1,a2,a3,_⟩:=aCX hb
 have a4:=a3.1;have a5:=a3.2
 unfold Ld u0
 rw[fq (by omega) (by omega) hb,Option.bind_some]
 generalize hp:pv 0 0 b=p at a1 a2 a4 a5 ⊢
 by_cases he:p.2.2=0
 ·rw[if_neg (by simpa using he),show (!(p.2.2==0))=false by simp[he]]
  simp only[cond_false]
  by_cases hn:p.1 < 0
  ·rw[if_pos hn,decide_eq_true hn];rfl
  ·rw[if_neg hn,decide_eq_false hn]
   simp only[cond_false]
   by_cases hm:1048576 < p.1
   ·rw[if_pos hm,decide_eq_true hm];rfl
   ·rw[if_neg hm,decide_eq_false hm]
    simp only[cond_false]
    rw[wrap64 (n:=(b.length:Int) - p.2.1) (by omega) (by omega),wrap64 (n:=p.1+4) (by omega) (by omega)]
    by_cases hs:(b.length:Int) - p.2.1 < p.1+4
    ·rw[if_pos hs,decide_eq_true hs];rfl
    ·rw[if_neg hs,decide_eq_false hs]
     simp only[cond_false]
     rw[wrap64 (n:=p.2.1+p.1) (by omega) (by omega),wrap64 (n:=p.2.1+p.1+4) (by omega) (by omega)]
     rw[AF (l:=p.2.1+p.1) (by omega) (by omega) (by omega),AF (l:=p.2.1) (by omega) (by omega) (by omega)]
     simp only[cond_true]
     rw[zc a1 (by omega),zc (i:=p.2.1+p.1) (n:=4) (by omega) (by omega)]
     have hsub:∀ x∈(b.drop p.2.1.toNat).take p.1.toNat,uR x:=fun x hx=>hb x (List.mem_of_mem_drop (List.mem_of_mem_take hx))
     have hlen:((b.drop p.2.1.toNat).take p.1.toNat).length≤b.length:=by simp;omega
     rw[xb (by simp;omega) (by simp) (by intro m hm;simp only[List.mem_singleton]at hm;subst hm;exact⟨by omega,by omega,hsub⟩),Option.bind_some]
     rw[show [(b.drop p.2.1.toNat).take p.1.toNat].flatten=(b.drop p.2.1.toNat).take p.1.toNat by simp]
     rw[show Qx N (QG ((b.drop p.2.1.toNat).take p.1.toNat))=some (four (QG ((b.drop p.2.1.toNat).take p.1.toNat))) from rfl,Option.bind_some]
     have h4:(List.take (4:Int).toNat (b.drop (p.2.1+p.1).toNat)).length≤4:=by simp;omega
     rw[aE0 (by omega) (by omega),Option.bind_some]
     rw[show (4:Int).toNat=4 from rfl]
     by_cases hc:(b.drop (p.2.1+p.1).toNat).take 4=four (QG ((b.drop p.2.1.toNat).take p.1.toNat))
     ·rw[if_pos hc,decide_eq_true hc]
      simp only[Bool.not_true,cond_false]
      rw[K1 (by omega),Option.bind_some]
     ·rw[if_neg hc,decide_eq_false hc];rfl
 ·rw[if_pos he,show (!(p.2.2==0))=true by simpa using he];rfl
end
def SX (s:Int×List Int)(x:List Int):Int×List Int:=if s.2.length+x.length≤1048576 then (s.1,s.2++x) else (if s.1=0 then 3 else s.1,s.2)
def wr (e:Int)(w:List Int)(cs:List (List Int)):Int×Bool×List Int:=((cs.foldl SX (e,w)).1,true,(cs.foldl SX (e,w)).2)
theorem aBd {s:Int×List Int}(h:s.2.length≤1048576)(x:List Int):(SX s x).2.length≤1048576:=by
 unfold SX;split
 ·simp;omega
 ·exact h
theorem cj:∀ (cs:List (List Int)) {s:Int×List Int},s.2.length≤1048576→(cs.foldl SX s).2.length≤1048576
 |[],_,h=>h
 |x :: cs,s,h=>cj cs (aBd h x)
theorem cg:∀ (cs:List (List Int)) (e:Int) (w:List Int),w.length+cs.flatten.length≤1048576→cs.foldl SX (e,w)=(e,w++cs.flatten)
 |[],e,w,_=>by simp
 |x :: cs,e,w,h=>by
  rw[List.flatten_cons,List.length_append]at h
  rw[List.foldl_cons,SX,if_pos (show w.length+x.length≤1048576 by omega),cg cs e (w++x) (by rw[List.length_append];omega),List.flatten_cons,List.append_assoc]
theorem cf:∀ (cs:List (List Int)) {s:Int×List Int},s.1≠0→(cs.foldl SX s).1=s.1
 |[],_,_=>rfl
 |x :: cs,s,h=>by
  have h1:(SX s x).1=s.1:=by unfold SX;split<;>simp[h]
  rw[List.foldl_cons,cf cs (by rw[h1];exact h),h1]
theorem I6:∀ (cs:List (List Int)) (w:List Int),w.length≤1048576→1048576 < w.length+cs.flatten.length→(cs.foldl SX (0,w)).1=3
 |[],w,h,h'=>by simp at h';omega
 |x :: cs,w,h,h'=>by
  rw[List.flatten_cons,List.length_append]at h'
  rw[List.foldl_cons,SX]
  split
  ·rename_i hf
   exact I6 cs (w++x) (by simp;simpa using hf) (by rw[List.length_append];omega)
  ·rw[cf cs (by simp)];rfl
theorem cX (e:Int)(w:List Int)(a b:List (List Int)):wr (wr e w a).1 (wr e w a).2.2 b=wr e w (a++b):=by
 simp only[wr,List.foldl_append]
theorem dV {e:Int}{w:List Int}(h:w.length≤1048576)(cs:List (List Int)):(wr e w cs).2.2.length≤1048576:=cj cs h
theorem XL (N:Nat)(e:Int){w:List Int}(x:List Int):(fR N (Xl w x).1 e (Xl w x).2.1 (Xl w x).2.2)=some (wr e w [x]):=by
 unfold fR wr Xl
 simp only[List.foldl_cons,List.foldl_nil,SX]
 by_cases h:w.length+x.length≤1048576
 ·by_cases he:e=0
  ·subst he;simp[h]
  ·have:(e==0)=false:=by simpa using he
   simp[h,this]
 ·by_cases he:e=0
  ·subst he;simp[h]
  ·have:(e==0)=false:=by simpa using he
   simp[h,this,he]
def pI (n:Int):List Int:=yW (VQ n)
def pB (l:List Int):List Int:=yW (VQ (l.length:Int))++l
def pT (s:List UInt8):List Int:=pB (Kf s)
theorem Rc (s:List UInt8):(Kf s).length=s.length:=by simp[Kf]
theorem OQ {N:Nat}(hN:11≤N){l:List Int}(hl:l.length < N)(V0:l.length≤1000000)(hr:∀ n∈l,Fi n){e:Int}{w:List Int}(hw:w.length≤1048576):aC N l e true w=some (wr e w (l.map pI)):=by
 unfold aC
 refine dU (fun q:gE=>0≤q.t8∧q.t8≤(l.length:Int)∧q.b1=true∧q.Ed.length≤1048576∧wr q.b0 q.Ed ((l.drop q.t8.toNat).map pI)=wr e w (l.map pI)) (fun q=>((l.length:Int) - q.t8).toNat) ?_ N _ ⟨by simp,by simp,rfl,hw,by simp⟩ (by simp;omega)
 rintro⟨i,b0,b1,Ed⟩ nx ⟨g0,g1,rfl,g3,hq⟩ ih
 simp only at g0 g1 g3 hq ih ⊢
 by_cases hi:i < l.length
 ·have hm:=hr _ (jS (default:Int) g0 hi)
  rw[dC (default:Int) g0 hi,List.map_cons,← List.singleton_append,← cX]at hq
  simp only[decide_eq_true hi,dT g0 hi,cond_true]
  rw[xd hN hm g3,Option.bind_some,XL,Option.bind_some,wrap64 (by omega) (by omega)]
  exact ih ⟨i+1,_,_,_⟩ ⟨by simp;omega,by simp;omega,rfl,dV g3 _,hq⟩ (by simp;omega)
 ·have:decide (i < (l.length:Int))=false:=by simpa using hi
  simp only[this,cond_false]
  rw[List.drop_eq_nil_of_le (by omega)]at hq
  rw[← hq];rfl
theorem QC {N:Nat}(hN:11≤N){l:List Int}(hl:l.length < N)(V0:l.length≤1000000)(hr:∀ n∈l,Fi n){e:Int}{w:List Int}(hw:w.length≤1048576):aU N l e true w=some (wr e w (l.map pI)):=by
 unfold aU
 refine dU (fun q:fS=>0≤q.t8∧q.t8≤(l.length:Int)∧q.b1=true∧q.Ed.length≤1048576∧wr q.b0 q.Ed ((l.drop q.t8.toNat).map pI)=wr e w (l.map pI)) (fun q=>((l.length:Int) - q.t8).toNat) ?_ N _ ⟨by simp,by simp,rfl,hw,by simp⟩ (by simp;omega)
 rintro⟨i,b0,b1,Ed⟩ nx ⟨g0,g1,rfl,g3,hq⟩ ih
 simp only at g0 g1 g3 hq ih ⊢
 by_cases hi:i < l.length
 ·have hm:=hr _ (jS (default:Int) g0 hi)
  rw[dC (default:Int) g0 hi,List.map_cons,← List.singleton_append,← cX]at hq
  simp only[decide_eq_true hi,dT g0 hi,cond_true]
  rw[xd hN hm g3,Option.bind_some,XL,Option.bind_some,wrap64 (by omega) (by omega)]
  exact ih ⟨i+1,_,_,_⟩ ⟨by simp;omega,by simp;omega,rfl,dV g3 _,hq⟩ (by simp;omega)
 ·have:decide (i < (l.length:Int))=false:=by simpa using hi
  simp only[this,cond_false]
  rw[List.drop_eq_nil_of_le (by omega)]at hq
  rw[← hq];rfl
theorem aC6 {N:Nat}(hN:11≤N){s:List UInt8}(hs:s.length≤1048576){w:List Int}(hw:w.length≤1048576):sN N s true w=some (Xl w (pT s)):=by
 unfold sN
 rw[xe hN (by rw[Rc];exact hs) hw];rfl
theorem aBJ {N:Nat}(hN:11≤N){l:List (List UInt8)}(hl:l.length < N)(V0:l.length≤1000000)(hr:∀ n∈l,n.length≤1048576){e:Int}{w:List Int}(hw:w.length≤1048576):nK N l e true w=some (wr e w (l.map pT)):=by
 unfold nK
 refine dU (fun q:fT=>0≤q.t8∧q.t8≤(l.length:Int)∧q.b1=true∧q.Ed.length≤1048576∧wr q.b0 q.Ed ((l.drop q.t8.toNat).map pT)=wr e w (l.map pT)) (fun q=>((l.length:Int) - q.t8).toNat) ?_ N _ ⟨by simp,by simp,rfl,hw,by simp⟩ (by simp;omega)
 rintro⟨i,b0,b1,Ed⟩ nx ⟨g0,g1,rfl,g3,hq⟩ ih
 simp only at g0 g1 g3 hq ih ⊢
 by_cases hi:i < l.length
 ·have hm:=hr _ (jS (default:(List UInt8)) g0 hi)
  rw[dC (default:(List UInt8)) g0 hi,List.map_cons,← List.singleton_append,← cX]at hq
  simp only[decide_eq_true hi,dT g0 hi,cond_true]
  rw[aC6 hN hm g3,Option.bind_some,XL,Option.bind_some,wrap64 (by omega) (by omega)]
  exact ih ⟨i+1,_,_,_⟩ ⟨by simp;omega,by simp;omega,rfl,dV g3 _,hq⟩ (by simp;omega)
 ·have:decide (i < (l.length:Int))=false:=by simpa using hi
  simp only[this,cond_false]
  rw[List.drop_eq_nil_of_le (by omega)]at hq
  rw[← hq];rfl
def uN (o:dP):Prop:=(0≤o.cG.Time∧o.cG.Time≤1099511627776)∧(0≤o.cG.Site∧o.cG.Site < 8)∧(1≤o.Kind∧o.Kind≤3)∧(0≤o.Node∧o.Node≤1125899906842624)∧(0≤o.cY∧o.cY≤1125899906842624) ∧
 o.Name.length≤255∧o.Key.length≤255∧o.Value.length≤255
instance (o:dP):Decidable (uN o):=by unfold uN;infer_instance
def opC (o:dP):List (List Int):=[o.cG.Time].map pI++[o.cG.Site,o.Kind].map pI++[o.Node,o.cY].map pI++[o.Name,o.Key,o.Value].map pT
def opB (o:dP):List Int:=(opC o).flatten
theorem aA2 {N:Nat}(hN:20≤N){o:dP}(ho:uN o){e:Int}{w:List Int}(hw:w.length≤1048576):jN N o e true w=some (wr e w (opC o)):=by
 obtain⟨h1,h2,h3,h4,h5,h6,h7,h8⟩:=ho
 unfold jN
 rw[OQ (by omega) (by simp;omega) (by simp) (by intro n hn;simp at hn;subst hn;exact⟨by omega,by omega⟩) hw,Option.bind_some]
 rw[show (wr e w (List.map pI [o.cG.Time])).2.1=true from rfl,QC (by omega) (by simp;omega) (by simp) (by intro n hn;simp at hn;rcases hn with rfl|rfl<;>exact⟨by omega,by omega⟩) (dV hw _),cX,Option.bind_some]
 rw[show (wr e w (List.map pI [o.cG.Time]++List.map pI [o.cG.Site,o.Kind])).2.1=true from rfl,OQ (by omega) (by simp;omega) (by simp) (by intro n hn;simp at hn;rcases hn with rfl|rfl<;>exact⟨by omega,by omega⟩) (dV hw _),cX,Option.bind_some]
 rw[show (wr e w (List.map pI [o.cG.Time]++List.map pI [o.cG.Site,o.Kind]++List.map pI [o.Node,o.cY])).2.1=true from rfl,aBJ (by omega) (by simp;omega) (by simp) (by intro n hn;simp at hn;rcases hn with rfl|rfl|rfl<;>omega) (dV hw _),cX,Option.bind_some]
 rfl
theorem Cd {n:Int}(h:Fi n):(pI n).length≤10:=jI (Lc h)
theorem SS {s:List UInt8}(h:s.length≤1048576):(pT s).length≤s.length+10:=by
 have:=jI (Lc (n:=((Kf s).length:Int)) ⟨by omega,by rw[Rc];omega⟩)
 unfold pT pB;rw[List.length_append,Rc]at *;omega
theorem Q8 {o:dP}(ho:uN o):(opB o).length≤845:=by
 obtain⟨h1,h2,h3,h4,h5,h6,h7,h8⟩:=ho
 have a1:=Cd (n:=o.cG.Time) ⟨by omega,by omega⟩
 have a2:=Cd (n:=o.cG.Site) ⟨by omega,by omega⟩
 have a3:=Cd (n:=o.Kind) ⟨by omega,by omega⟩
 have a4:=Cd (n:=o.Node) ⟨by omega,by omega⟩
 have a5:=Cd (n:=o.cY) ⟨by omega,by omega⟩
 have a6:=SS (s:=o.Name) (by omega)
 have a7:=SS (s:=o.Key) (by omega)
 have a8:=SS (s:=o.Value) (by omega)
 simp only[opB,opC,List.map_cons,List.map_nil,List.flatten_append,List.flatten_cons,List.flatten_nil,List.length_append,List.length_nil]
 omega
section
variable {N:Nat}
theorem aFd (hN:5≤N)(a:Int):cK N [a]=some (decide (0≤a∧a≤1099511627776)):=by
 obtain⟨k,rfl⟩:∃ k,N=k+5:=⟨N - 5,by omega⟩
 have:cK (k+5) [a]=(bif (decide (a < 0)) || (decide (1099511627776 < a)) then some false else some true):=by kernel_rfl
 rw[this]
 by_cases h1:a < 0<;>by_cases h2:1099511627776 < a<;>simp[h1,h2]<;>omega
theorem aJu (hN:5≤N)(a:Int):eI N [a]=some (decide (0≤a∧a < 8)):=by
 obtain⟨k,rfl⟩:∃ k,N=k+5:=⟨N - 5,by omega⟩
 have:eI (k+5) [a]=(bif (decide (a < 0)) || (decide (8≤a)) then some false else some true):=by kernel_rfl
 rw[this]
 by_cases h1:a < 0<;>by_cases h2:8≤a<;>simp[h1,h2]<;>omega
theorem node2 (hN:5≤N)(a b:Int):Oj N [a,b]=some (decide ((0≤a∧a≤1125899906842624)∧(0≤b∧b≤1125899906842624))):=by
 obtain⟨k,rfl⟩:∃ k,N=k+5:=⟨N - 5,by omega⟩
 have:Oj (k+5) [a,b]=(bif (decide (a < 0)) || (decide (1125899906842624 < a)) then some false else bif (decide (b < 0)) || (decide (1125899906842624 < b)) then some false else some true):=by kernel_rfl
 rw[this]
 by_cases h1:a < 0<;>by_cases h2:1125899906842624 < a<;>by_cases h3:b < 0<;>by_cases h4:1125899906842624 < b<;>simp[h1,h2,h3,h4]<;>omega
theorem aJz (hN:6≤N)(a b c:List UInt8):Ol N [a,b,c]=some (decide (a.length≤255∧b.length≤255∧c.length≤255)):=by
 obtain⟨k,rfl⟩:∃ k,N=k+6:=⟨N - 6,by omega⟩
 have:Ol (k+6) [a,b,c]=(bif decide (255 < (a.length:Int)) then some false else bif decide (255 < (b.length:Int)) then some false else bif decide (255 < (c.length:Int)) then some false else some true):=by kernel_rfl
 rw[this]
 by_cases h1:255 < (a.length:Int)<;>by_cases h2:255 < (b.length:Int)<;>by_cases h3:255 < (c.length:Int)<;>simp[h1,h2,h3]<;>omega
theorem bf (hN:10≤N)(o:dP):yY N o=some (decide (uN o)):=by
 unfold yY
 simp only[aFd (N:=N) (by omega),aJu (N:=N) (by omega),node2 (N:=N) (by omega),aJz (N:=N) (by omega),Option.bind_some]
 unfold uN
 by_cases h1:(0≤o.cG.Time∧o.cG.Time≤1099511627776)<;>by_cases h2:(0≤o.cG.Site∧o.cG.Site < 8)<;>by_cases h3:1≤o.Kind<;>by_cases h4:o.Kind≤3 <;>
  by_cases h5:((0≤o.Node∧o.Node≤1125899906842624)∧(0≤o.cY∧o.cY≤1125899906842624))<;>simp[h1,h2,h3,h4,h5]<;>omega
theorem VG (o:dP):xD N o=some (decide (uN o)):=by
 unfold xD Mj bK cL Um uN
 simp only[Option.bind_some]
 by_cases h1:0≤o.cG.Time<;>by_cases FG:o.cG.Time≤1099511627776<;>simp[h1,FG]
 by_cases h2:0≤o.cG.Site<;>by_cases QR:o.cG.Site < 8<;>simp[h2,QR]
 by_cases h3:1≤o.Kind<;>by_cases h4:o.Kind≤3<;>simp[h3,h4]
 by_cases h5:0≤o.Node<;>by_cases h5':o.Node≤1125899906842624<;>simp[h5,h5']
 by_cases h6:0≤o.cY<;>by_cases h6':o.cY≤1125899906842624<;>simp[h6,h6']
 by_cases h7:o.Name.length≤255<;>by_cases h8:o.Key.length≤255<;>by_cases h9:o.Value.length≤255<;>simp[h7,h8,h9]<;>omega
theorem GC (hN:20≤N){l:List Int}(hl:l.length < N)(V0:l.length≤1000000)(hr:∀ n∈l,Fi n):fF N l=some (l.map pI).flatten:=by
 unfold fF
 refine dU (fun q:rJ=>0≤q.i∧q.i≤(l.length:Int)∧(q.b.length:Int)≤10 * q.i∧q.b++((l.drop q.i.toNat).map pI).flatten=(l.map pI).flatten) (fun q=>((l.length:Int) - q.i).toNat) ?_ N _ ⟨by simp,by simp,by simp,by simp⟩ (by simp;omega)
 rintro⟨b,i⟩ nx ⟨g0,g1,g2,hq⟩ ih
 simp only at g0 g1 g2 hq ih ⊢
 by_cases hi:i < l.length
 ·have hm:=hr _ (jS (default:Int) g0 hi)
  have hp:=Cd hm
  rw[dC (default:Int) g0 hi,List.map_cons,List.flatten_cons]at hq
  simp only[decide_eq_true hi,dT g0 hi,cond_true]
  rw[XV (by omega) hm,Option.bind_some,dI (by unfold pI at hp;omega),wrap64 (by omega) (by omega)]
  exact ih ⟨_,i+1⟩ ⟨by simp;omega,by simp;omega,by simp only[List.length_append];unfold pI at hp;omega,by simp only[List.append_assoc];exact hq⟩ (by simp;omega)
 ·have:decide (i < (l.length:Int))=false:=by simpa using hi
  simp only[this,cond_false]
  rw[List.drop_eq_nil_of_le (by omega)]at hq
  rw[← hq];simp
theorem MW (hN:20≤N){b:List Int}{s:List UInt8}(hb:b.length≤10000000)(hs:s.length≤1048576):uE N b s=some (b++pT s):=by
 have hp:=SS hs
 unfold uE
 rw[xf (by omega) (by rw[Rc];exact hs),Option.bind_some,dI (by unfold pT pB at hp;omega)]
 rfl
theorem I0 (hN:20≤N){o:dP}(ho:uN o):yZ N o=some (opB o):=by
 have jr:=ho
 obtain⟨h1,h2,h3,h4,h5,h6,h7,h8⟩:=jr
 have a1:=Cd (n:=o.cG.Time) ⟨by omega,by omega⟩
 have a2:=Cd (n:=o.cG.Site) ⟨by omega,by omega⟩
 have a3:=Cd (n:=o.Kind) ⟨by omega,by omega⟩
 have a4:=Cd (n:=o.Node) ⟨by omega,by omega⟩
 have a5:=Cd (n:=o.cY) ⟨by omega,by omega⟩
 have a6:=SS (s:=o.Name) (by omega)
 have a7:=SS (s:=o.Key) (by omega)
 unfold yZ
 rw[GC hN (by simp;omega) (by simp) (by intro n hn;simp at hn;rcases hn with rfl|rfl|rfl|rfl|rfl<;>exact⟨by omega,by omega⟩),Option.bind_some]
 have hb:(([o.cG.Time,o.cG.Site,o.Kind,o.Node,o.cY].map pI).flatten).length≤50:=by simp;omega
 rw[MW hN (by omega) (by omega),Option.bind_some,MW hN (by rw[List.length_append];omega) (by omega),Option.bind_some,MW hN (by simp only[List.length_append];omega) (by omega),Option.bind_some]
 simp[opB,opC]
theorem aHH {e:Int}{w:List Int}{cs:List (List Int)}(h:w.length+cs.flatten.length≤1048576):wr e w cs=(e,true,w++cs.flatten):=by
 unfold wr;rw[cg cs e w h]
end
def uZ (n:Int):Prop:=0≤n∧n≤1099511627776
instance (n:Int):Decidable (uZ n):=by unfold uZ;infer_instance
def Jv (n:Int):Prop:=0≤n∧n < 8
instance (n:Int):Decidable (Jv n):=by unfold Jv;infer_instance
def wK (v:Vector Int 8):Prop:=∀ n∈v.toList,uZ n
instance (v:Vector Int 8):Decidable (wK v):=by unfold wK;infer_instance
def VT (e:aD)(j:Nat):Prop:=(0≤iK e.cB j default∧iK e.cB j default≤3)∧(-1≤iK e.aV j default∧iK e.aV j default < 8)
instance (e:aD)(j:Nat):Decidable (VT e j):=by unfold VT;infer_instance
def Ah (e:aD):Prop:=uZ e.Number∧wK e.iD∧∀ j,j < 8→VT e j
def wJ (p:aK):Prop:=uZ p.Qz∧(1≤p.Hq∧p.Hq≤4096)∧(0≤p.Index∧p.Index < p.Hq)∧p.Data.length≤16384
instance (p:aK):Decidable (wJ p):=by unfold wJ;infer_instance
def uY (l:List dP):Prop:=1≤l.length∧l.length≤4096∧∀ o∈l,uN o
instance (l:List dP):Decidable (uY l):=by unfold uY;infer_instance
theorem eJ {α:Type}(c:Bool)(x y:α):(bif c then some x else some y)=some (bif c then x else y):=by cases c<;>rfl
theorem gX (c x y:Bool):(c&&(bif c then x else y))=(c&&x):=by cases c<;>rfl
def wv (a b:dP):Bool:=(((a.cG.Time==b.cG.Time)&&(a.cG.Site==b.cG.Site))&&((a.Kind==b.Kind)&&((a.Node==b.Node)&&((a.cY==b.cY)&&((a.Name==b.Name)&&((a.Key==b.Key)&&(a.Value==b.Value)))))))
theorem px (a b:dP):wv a b=true↔a=b:=by
 obtain⟨⟨a1,a2⟩,a3,a4,a5,a6,a7,a8⟩:=a
 obtain⟨⟨b1,b2⟩,b3,b4,b5,b6,b7,b8⟩:=b
 simp[wv,and_assoc]
def bs (a b:List dP):Bool:=((a.length:Int)==(b.length:Int))&&((a.zip b).all fun p=>wv p.1 p.2)
theorem bt (a b:List dP):bs a b=true↔a=b:=by
 unfold bs
 by_cases h:a.length=b.length
 ·simp only[h,beq_self_eq_true,Bool.true_and]
  exact HU px a b h
 ·have:((a.length:Int)==(b.length:Int))=false:=by simp;omega
  simp only[this,Bool.false_and,Bool.false_eq_true,false_iff]
  exact fun e=>h (by rw[e])
section
variable {N:Nat}
theorem UF {a b:List dP}(hN:a.length < N)(ha:a.length≤9223372036854775807):wH N a b=some (bs a b):=by
 unfold wH bs
 by_cases hl:a.length=b.length
 ·simp only[hl,beq_self_eq_true,Bool.not_true,cond_false,Bool.true_and]
  refine dU (fun q:mZ=>0≤q.t13∧q.t13≤(a.length:Int)∧(((a.drop q.t13.toNat).zip (b.drop q.t13.toNat)).all fun p=>wv p.1 p.2)=((a.zip b).all fun p=>wv p.1 p.2)) (fun q=>((a.length:Int) - q.t13).toNat) ?_ N _ ⟨by simp,by simp,by simp⟩ (by simp;omega)
  rintro⟨i⟩ nx ⟨g0,g1,hq⟩ ih
  simp only at g0 g1 hq ih ⊢
  by_cases hi:i < b.length
  ·have FK:i < a.length:=by omega
   rw[dC (default:dP) g0 hi,dC (default:dP) g0 FK,List.zip_cons_cons,List.all_cons]at hq
   simp only[decide_eq_true hi,dT g0 hi,cond_true]
   change (bif !(wv (aE a i default) (aE b i default)) then _ else _)=_
   cases ho:wv (aE a i default) (aE b i default) with
   |true =>
    rw[ho,Bool.true_and]at hq
    simp only[Bool.not_true,cond_false]
    rw[wrap64 (by omega) (by omega)]
    exact ih ⟨i+1⟩ ⟨by simp;omega,by simp;omega,hq⟩ (by simp;omega)
   |false=>rw[ho,Bool.false_and]at hq;rw[← hq];rfl
  ·have:decide (i < (b.length:Int))=false:=by simpa using hi
   simp only[this,cond_false]
   rw[List.drop_eq_nil_of_le (by omega)]at hq
   rw[← hq];rfl
 ·have:((a.length:Int)==(b.length:Int))=false:=by simp;omega
  simp only[this,Bool.not_false,cond_true,Bool.false_and]
theorem I9 {a b:List dP}(hN:a.length < N)(ha:a.length≤9223372036854775807):Az N a b=some (bs a b):=by
 unfold Az bs
 by_cases hl:a.length=b.length
 ·simp only[hl,beq_self_eq_true,Bool.not_true,cond_false,Bool.true_and]
  refine dU (fun q:rK=>0≤q.i∧q.i≤(a.length:Int)∧(((a.drop q.i.toNat).zip (b.drop q.i.toNat)).all fun p=>wv p.1 p.2)=((a.zip b).all fun p=>wv p.1 p.2)) (fun q=>((a.length:Int) - q.i).toNat) ?_ N _ ⟨by simp,by simp,by simp⟩ (by simp;omega)
  rintro⟨i⟩ nx ⟨g0,g1,hq⟩ ih
  simp only at g0 g1 hq ih ⊢
  by_cases hi:i < b.length
  ·have FK:i < a.length:=by omega
   rw[dC (default:dP) g0 hi,dC (default:dP) g0 FK,List.zip_cons_cons,List.all_cons]at hq
   simp only[decide_eq_true hi,dT g0 hi,cond_true]
   change (bif !(wv (aE a i default) (aE b i default)) then _ else _)=_
   cases ho:wv (aE a i default) (aE b i default) with
   |true =>
    rw[ho,Bool.true_and]at hq
    simp only[Bool.not_true,cond_false]
    rw[wrap64 (by omega) (by omega)]
    exact ih ⟨i+1⟩ ⟨by simp;omega,by simp;omega,hq⟩ (by simp;omega)
   |false=>rw[ho,Bool.false_and]at hq;rw[← hq];rfl
  ·have:decide (i < (b.length:Int))=false:=by simpa using hi
   simp only[this,cond_false]
   rw[List.drop_eq_nil_of_le (by omega)]at hq
   rw[← hq];rfl
 ·have:((a.length:Int)==(b.length:Int))=false:=by simp;omega
  simp only[this,Bool.not_false,cond_true,Bool.false_and]
def epq (a b:aD):Bool:=((a.Number==b.Number)&&((rN Hj a.cB b.cB)&&((rN Dd a.iD b.iD)&&(rN Hj a.aV b.aV))))
theorem YG (x y:Int):Dd x y=true↔x=y:=by simp[Dd]
theorem yb (x y:Int):Hj x y=true↔x=y:=by simp[Hj]
theorem om (a b:aD):epq a b=true↔a=b:=by
 obtain⟨a1,a2,a3,a4⟩:=a
 obtain⟨b1,b2,b3,b4⟩:=b
 simp only[epq,Bool.and_eq_true,beq_iff_eq,QO YG,QO yb,aD.mk.injEq]
def Bg (l:List Int):Prop:=∀ x∈l,uR x
def ptq (a b:aK):Bool:=((((a.Qz==b.Qz)&&(a.Index==b.Index))&&(a.Hq==b.Hq))&&((QF a.Data)==(QF b.Data)))
theorem aBB {a b:List Int}(ha:Bg a)(hb:Bg b):QF a=QF b↔a=b :=
 ⟨fun h=>by rw[← TT ha,← TT hb,h],fun h=>by rw[h]⟩
theorem qc {a b:aK}(ha:Bg a.Data)(hb:Bg b.Data):ptq a b=true↔a=b:=by
 obtain⟨a1,a2,a3,a4⟩:=a
 obtain⟨b1,b2,b3,b4⟩:=b
 simp only[ptq,Bool.and_eq_true,beq_iff_eq,aBB ha hb,aK.mk.injEq,and_assoc]
def Hh (a b:aB):Bool :=
 ((((((((((((((a.Kind==b.Kind)&&(a.cE==b.cE))&&(a.Request==b.Request))&&wv a.Op b.Op)&&(a.Origin==b.Origin))&&(a.Seq==b.Seq))&&bs a.fP b.fP)&&epq a.aY b.aY)&&(a.aS==b.aS))&&(rN Dd a.aH b.aH))&&(a.bH==b.bH))&&ptq a.Part b.Part)&&(a.Site==b.Site))&&(a.aV==b.aV))&&(a.Length==b.Length)
theorem Zi {a b:aB}(ha:Bg a.Part.Data)(hb:Bg b.Part.Data):Hh a b=true↔a=b:=by
 obtain⟨a1,a2,a3,a4,a5,a6,a7,a8,a9,eT,eK,eL,eA,eB,jA⟩:=a
 obtain⟨b1,b2,b3,b4,b5,b6,b7,b8,b9,b10,b11,Ed,b13,b14,b15⟩:=b
 simp only[Hh,Bool.and_eq_true,beq_iff_eq,px,bt,om,QO YG,qc (a:=eL) (b:=Ed) ha hb,aB.mk.injEq,and_assoc]
theorem CM {a b:aB}(hN:a.fP.length < N)(ha:a.fP.length≤9223372036854775807):bI N a b=some (Hh a b):=by
 unfold bI wG
 rw[UF hN ha]
 simp only[eJ,Option.bind_some,gX]
 rfl
theorem Np {a b:aB}(hN:a.fP.length < N)(ha:a.fP.length≤9223372036854775807):dH N a b=some (Hh a b):=by
 unfold dH yN
 rw[I9 hN ha]
 simp only[eJ,Option.bind_some,gX]
 rfl
end
theorem RA {b:Bool}{P:Prop}[inst:Decidable P](h:b=true↔P):b=decide P:=by
 by_cases hp:P
 ·rw[decide_eq_true hp];exact h.2 hp
 ·rw[decide_eq_false hp]
  cases b with
  |false=>rfl
  |true=>exact absurd (h.1 rfl) hp
instance (e:aD):Decidable (Ah e):=by unfold Ah;infer_instance
section
variable {N:Nat}
theorem Vx {l:List Int}(hN:l.length < N)(hl:l.length≤1000000):cK N l=some (l.all fun n=>decide (uZ n)):=by
 unfold cK
 refine dU (fun q:uF=>0≤q.t7∧q.t7≤(l.length:Int)∧((l.drop q.t7.toNat).all fun n=>decide (uZ n))=l.all fun n=>decide (uZ n)) (fun q=>((l.length:Int) - q.t7).toNat) ?_ N _ ⟨by simp,by simp,by simp⟩ (by simp;omega)
 rintro⟨i⟩ nx ⟨g0,g1,hq⟩ ih
 simp only at g0 g1 hq ih ⊢
 by_cases hi:i < l.length
 ·rw[dC (default:Int) g0 hi,List.all_cons]at hq
  simp only[decide_eq_true hi,dT g0 hi,cond_true]
  generalize aE l i default=n at hq ⊢
  by_cases hn:uZ n
  ·have h1:decide (n < 0)=false:=by simpa using hn.1
   have h2:decide (1099511627776 < n)=false:=by simpa using hn.2
   rw[decide_eq_true hn,Bool.true_and]at hq
   simp only[h1,h2,Bool.or_self,cond_false]
   rw[wrap64 (by omega) (by omega)]
   exact ih ⟨i+1⟩ ⟨by simp;omega,by simp;omega,hq⟩ (by simp;omega)
  ·have h1:(decide (n < 0) || decide (1099511627776 < n))=true:=by unfold uZ at hn;simp;omega
   rw[decide_eq_false hn,Bool.false_and]at hq
   rw[h1,← hq];rfl
 ·have:decide (i < (l.length:Int))=false:=by simpa using hi
  simp only[this,cond_false]
  rw[List.drop_eq_nil_of_le (by omega)]at hq
  rw[← hq];rfl
theorem aBu {l:List Int}(hN:l.length < N)(hl:l.length≤1000000):eI N l=some (l.all fun n=>decide (Jv n)):=by
 unfold eI
 refine dU (fun q:wL=>0≤q.t7∧q.t7≤(l.length:Int)∧((l.drop q.t7.toNat).all fun n=>decide (Jv n))=l.all fun n=>decide (Jv n)) (fun q=>((l.length:Int) - q.t7).toNat) ?_ N _ ⟨by simp,by simp,by simp⟩ (by simp;omega)
 rintro⟨i⟩ nx ⟨g0,g1,hq⟩ ih
 simp only at g0 g1 hq ih ⊢
 by_cases hi:i < l.length
 ·rw[dC (default:Int) g0 hi,List.all_cons]at hq
  simp only[decide_eq_true hi,dT g0 hi,cond_true]
  generalize aE l i default=n at hq ⊢
  by_cases hn:Jv n
  ·have h1:decide (n < 0)=false:=by simpa using hn.1
   have h2:decide (8≤n)=false:=by simpa using hn.2
   rw[decide_eq_true hn,Bool.true_and]at hq
   simp only[h1,h2,Bool.or_self,cond_false]
   rw[wrap64 (by omega) (by omega)]
   exact ih ⟨i+1⟩ ⟨by simp;omega,by simp;omega,hq⟩ (by simp;omega)
  ·have h1:(decide (n < 0) || decide (8≤n))=true:=by unfold Jv at hn;simp;omega
   rw[decide_eq_false hn,Bool.false_and]at hq
   rw[h1,← hq];rfl
 ·have:decide (i < (l.length:Int))=false:=by simpa using hi
  simp only[this,cond_false]
  rw[List.drop_eq_nil_of_le (by omega)]at hq
  rw[← hq];rfl
theorem MH (v:Vector Int 8):(v.toList.all fun n=>decide (uZ n))=decide (wK v):=by
 exact RA (by unfold wK;simp only[List.all_eq_true,decide_eq_true_eq])
theorem aAA {l:List dP}(hN:l.length+12≤N)(hl:l.length≤9223372036854775807):kN N l=some (!(l.all fun o=>decide (uN o))):=by
 unfold kN
 have key:∃ r,nL N l=some r∧decide (0≤r)=!(l.all fun o=>decide (uN o)):=by
  unfold nL
  refine rM (fun q:fV=>0≤q.t8∧q.t8≤(l.length:Int)∧((l.drop q.t8.toNat).all fun n=>decide (uN n))=l.all fun n=>decide (uN n)) (fun q=>((l.length:Int) - q.t8).toNat) _ ?_ N _ ⟨by simp,by simp,by simp⟩ (by simp;omega)
  rintro⟨i⟩ nx ⟨g0,g1,hq⟩ ih
  simp only at g0 g1 hq ih ⊢
  by_cases hi:i < l.length
  ·rw[dC (default:dP) g0 hi,List.all_cons]at hq
   simp only[decide_eq_true hi,dT g0 hi,cond_true]
   have h1:Ck N (⟨(aE l i default).cG,(aE l i default).Kind,(aE l i default).Node,(aE l i default).cY,(aE l i default).Name,(aE l i default).Key,(aE l i default).Value⟩:dP)=some (!decide (uN (aE l i default))):=by
    unfold Ck
    rw[bf (by omega)];rfl
   rw[h1,Option.bind_some]
   by_cases ho:uN (aE l i default)
   ·rw[decide_eq_true ho,Bool.true_and]at hq
    rw[decide_eq_true ho]
    simp only[Bool.not_true,cond_false]
    rw[wrap64 (by omega) (by omega)]
    exact ih ⟨i+1⟩ ⟨by simp;omega,by simp;omega,hq⟩ (by simp;omega)
   ·rw[decide_eq_false ho,Bool.false_and]at hq
    rw[decide_eq_false ho]
    exact⟨i,rfl,by rw[← hq];simpa using g0⟩
  ·have:decide (i < (l.length:Int))=false:=by simpa using hi
   simp only[this,cond_false]
   rw[List.drop_eq_nil_of_le (by omega)]at hq
   exact⟨-1,rfl,by rw[← hq];rfl⟩
 obtain⟨r,h1,h2⟩:=key
 rw[h1,Option.bind_some,h2]
theorem H4 {l:List dP}(hN:l.length+12≤N)(hl:l.length≤9223372036854775807):kW N l 1=some (decide (uY l)):=by
 unfold kW
 rw[aAA hN hl]
 simp only[eJ,Option.bind_some]
 refine congrArg some (RA ?_)
 unfold uY
 by_cases h1:(1:Int)≤l.length
 ·by_cases h2:(l.length:Int)≤4096
  ·simp only[decide_eq_true h1,decide_eq_true h2,Bool.and_self,cond_true,Bool.true_and,Bool.not_not,List.all_eq_true,decide_eq_true_eq]
   exact⟨fun h=>⟨by omega,by omega,h⟩,fun h=>h.2.2⟩
  ·simp only[decide_eq_false h2,Bool.and_false,Bool.false_and,Bool.false_eq_true,false_iff]
   exact fun h=>h2 (by omega)
 ·simp only[decide_eq_false h1,Bool.false_and,Bool.false_eq_true,false_iff]
  exact fun h=>h1 (by omega)
theorem J0 {l:List dP}(hN:l.length+12≤N)(hl:l.length≤9223372036854775807):Fh N l=some (decide (uY l)):=by
 unfold Fh
 refine dU (fun q:Cn=>0≤q.i∧q.i≤(l.length:Int)∧((∀ o∈l.drop q.i.toNat,uN o)↔∀ o∈l,uN o)) (fun q=>((l.length:Int) - q.i).toNat) ?_ N _ ⟨by simp,by simp,by simp⟩ (by simp;omega)
 rintro⟨i⟩ nx ⟨g0,g1,hq⟩ ih
 simp only at g0 g1 hq ih ⊢
 by_cases hi:i < l.length
 ·rw[dC (default:dP) g0 hi,List.forall_mem_cons]at hq
  simp only[decide_eq_true hi,dT g0 hi,cond_true]
  rw[VG,Option.bind_some]
  change (bif !(decide (uN (aE l i default))) then _ else _)=_
  by_cases ho:uN (aE l i default)
  ·rw[decide_eq_true ho]
   simp only[Bool.not_true,cond_false]
   rw[wrap64 (by omega) (by omega)]
   exact ih ⟨i+1⟩ ⟨by simp;omega,by simp;omega,⟨fun h=>hq.1 ⟨ho,h⟩,fun h=>(hq.2 h).2⟩⟩ (by simp;omega)
  ·rw[decide_eq_false ho]
   have:¬ uY l:=fun h=>ho (hq.2 h.2.2).1
   simp[this]
 ·have:decide (i < (l.length:Int))=false:=by simpa using hi
  simp only[this,cond_false]
  rw[List.drop_eq_nil_of_le (by omega)]at hq
  have iI:∀ o∈l,uN o:=hq.1 (by simp)
  refine congrArg some (RA ?_)
  unfold uY
  simp only[Bool.and_eq_true,decide_eq_true_eq]
  constructor
  ·rintro⟨h1,h2⟩;exact⟨by omega,by omega,iI⟩
  ·rintro⟨h1,h2,_⟩;exact⟨by omega,by omega⟩
theorem UX (hN:20≤N)(e:aD):iW N e=some (decide (Ah e)):=by
 unfold iW
 rw[Vx (by simp;omega) (by simp),Option.bind_some]
 by_cases hn:uZ e.Number
 ·simp only[List.all_cons,List.all_nil,Bool.and_true,decide_eq_true hn,cond_true,Bool.true_and]
  rw[Vx (by simp;omega) (by simp),Option.bind_some,MH]
  refine dU (fun q:mW=>0≤q.t14∧q.t14≤8∧(q.ok=true↔wK e.iD∧∀ j,j < q.t14.toNat→VT e j)) (fun q=>(8 - q.t14).toNat) ?_ N _ ⟨by simp,by simp,by simp⟩ (by simp;omega)
  rintro⟨ok,i⟩ nx ⟨g0,g1,hq⟩ ih
  simp only at g0 g1 hq ih ⊢
  by_cases hi:i < 8
  ·simp only[decide_eq_true hi,dT g0 hi,Bool.or_true,cond_true]
   rw[wrap64 (by omega) (by omega)]
   refine ih ⟨_,i+1⟩ ⟨by simp;omega,by simp;omega,?_⟩ (by simp;omega)
   simp only
   rw[show (i+1).toNat=i.toNat+1 by omega]
   have this:(((0≤iK e.cB i.toNat default∧iK e.cB i.toNat default≤3)∧-1≤iK e.aV i.toNat default)∧iK e.aV i.toNat default < 8)↔VT e i.toNat:=by unfold VT;rw[and_assoc]
   simp only[Bool.and_eq_true,decide_eq_true_eq,hq]
   constructor
   ·rintro⟨⟨⟨⟨⟨h0,h1⟩,h2⟩,h3⟩,h4⟩,h5⟩
    refine⟨h0,fun j hj=>?_⟩
    rcases Nat.lt_succ_iff_lt_or_eq.1 hj with h|rfl
    ·exact h1 j h
    ·exact this.1 ⟨⟨⟨h2,h3⟩,h4⟩,h5⟩
   ·rintro⟨h0,h1⟩
    obtain⟨⟨⟨h2,h3⟩,h4⟩,h5⟩:=this.2 (h1 _ (Nat.lt_succ_self _))
    exact⟨⟨⟨⟨⟨h0,fun j hj=>h1 j (Nat.lt_succ_of_lt hj)⟩,h2⟩,h3⟩,h4⟩,h5⟩
  ·have:decide (i < (8:Int))=false:=by simpa using hi
   simp only[this,cond_false]
   refine congrArg some (RA ?_)
   rw[hq,show i.toNat=8 by omega]
   unfold Ah
   exact⟨fun h=>⟨hn,h⟩,fun h=>h.2⟩
 ·have NQ:¬ Ah e:=fun h=>hn h.1
  simp only[List.all_cons,List.all_nil,Bool.and_true,decide_eq_false hn,cond_false,decide_eq_false NQ]
  refine dU (fun q:lX=>0≤q.t14∧q.t14≤8∧q.ok=false) (fun q=>(8 - q.t14).toNat) ?_ N _ ⟨by simp,by simp,rfl⟩ (by simp;omega)
  rintro⟨ok,i⟩ nx ⟨g0,g1,rfl⟩ ih
  simp only at g0 g1 ih ⊢
  by_cases hi:i < 8
  ·simp only[decide_eq_true hi,dT g0 hi,Bool.or_true,cond_true,Bool.false_and]
   rw[wrap64 (by omega) (by omega)]
   exact ih ⟨_,i+1⟩ ⟨by simp;omega,by simp;omega,rfl⟩ (by simp;omega)
  ·have:decide (i < (8:Int))=false:=by simpa using hi
   simp only[this,cond_false]
theorem CI (hN:20≤N)(v:Vector Int 8):kG N v=some (decide (wK v)):=by
 unfold kG bK
 refine dU (fun q:mX=>0≤q.i∧q.i≤8∧∀ j,j < q.i.toNat→uZ (iK v j default)) (fun q=>(8 - q.i).toNat) ?_ N _ ⟨by simp,by simp,by simp⟩ (by simp;omega)
 rintro⟨i⟩ nx ⟨g0,g1,hq⟩ ih
 simp only at g0 g1 hq ih ⊢
 by_cases hi:i < 8
 ·simp only[decide_eq_true hi,dT g0 hi,cond_true,Option.bind_some]
  have hc:(decide (0≤iK v i.toNat default)&&decide (iK v i.toNat default≤1099511627776))=decide (uZ (iK v i.toNat default)):=RA (by simp only[Bool.and_eq_true,decide_eq_true_eq];exact Iff.rfl)
  rw[hc]
  by_cases hv:uZ (iK v i.toNat default)
  ·rw[decide_eq_true hv,wrap64 (by omega) (by omega)]
   refine ih ⟨i+1⟩ ⟨by simp;omega,by simp;omega,fun j hj=>?_⟩ (by simp;omega)
   simp only at hj
   rw[show (i+1).toNat=i.toNat+1 by omega]at hj
   rcases Nat.lt_succ_iff_lt_or_eq.1 hj with h|rfl
   ·exact hq j h
   ·exact hv
  ·rw[decide_eq_false hv]
   have:¬ wK v:=fun h=>hv (h _ (dw v default (by omega)))
   simp[this]
 ·have:decide (i < (8:Int))=false:=by simpa using hi
  simp only[this,cond_false]
  have:wK v:=fun n hn=>by
   obtain⟨j,hj,rfl⟩:=List.getElem_of_mem hn
   have hj8:j < 8:=by simpa using hj
   have:=hq j (by omega)
   rw[dv v default hj8]at this
   simpa using this
  simp[this]
theorem HE (hN:20≤N)(e:aD):oV N e=some (decide (Ah e)):=by
 unfold oV
 refine dU (fun q:oM=>0≤q.i∧q.i≤8∧∀ j,j < q.i.toNat→VT e j) (fun q=>(8 - q.i).toNat) ?_ N _ ⟨by simp,by simp,by simp⟩ (by simp;omega)
 rintro⟨i⟩ nx ⟨g0,g1,hq⟩ ih
 simp only at g0 g1 hq ih ⊢
 by_cases hi:i < 8
 ·simp only[decide_eq_true hi,dT g0 hi,cond_true,Bool.or_true]
  have hc:(((decide (iK e.cB i.toNat default < 0) || decide (3 < iK e.cB i.toNat default)) || decide (iK e.aV i.toNat default < -1)) || decide (8≤iK e.aV i.toNat default))=!decide (VT e i.toNat):=by
   by_cases hv:VT e i.toNat
   ·have Yg:=hv
    obtain⟨⟨h1,h2⟩,h3,h4⟩:=Yg
    rw[decide_eq_true hv,decide_eq_false (by omega),decide_eq_false (by omega),decide_eq_false (by omega),decide_eq_false (by omega)];rfl
   ·rw[decide_eq_false hv]
    unfold VT at hv
    simp only[Bool.or_eq_true,decide_eq_true_eq,Bool.not_false]
    omega
  rw[hc]
  by_cases hv:VT e i.toNat
  ·rw[decide_eq_true hv,wrap64 (by omega) (by omega)]
   refine ih ⟨i+1⟩ ⟨by simp;omega,by simp;omega,fun j hj=>?_⟩ (by simp;omega)
   simp only at hj
   rw[show (i+1).toNat=i.toNat+1 by omega]at hj
   rcases Nat.lt_succ_iff_lt_or_eq.1 hj with h|rfl
   ·exact hq j h
   ·exact hv
  ·rw[decide_eq_false hv]
   have:¬ Ah e:=fun h=>hv (h.2.2 _ (by omega))
   simp[this]
 ·have:decide (i < (8:Int))=false:=by simpa using hi
  simp only[this,cond_false]
  rw[CI hN]
  unfold bK
  simp only[Option.bind_some,eJ,gX]
  have iI:∀ j,j < 8→VT e j:=fun j hj=>hq j (by omega)
  refine congrArg some (RA ?_)
  unfold Ah uZ
  simp only[Bool.and_eq_true,decide_eq_true_eq]
  exact⟨fun h=>⟨h.1,h.2,iI⟩,fun h=>⟨h.1,h.2.1⟩⟩
theorem ZW (hN:20≤N)(p:aK):fE N p=some (decide (wJ p)):=by
 unfold fE
 rw[Vx (by simp;omega) (by simp),Option.bind_some]
 refine congrArg some (RA ?_)
 unfold wJ
 simp only[List.all_cons,List.all_nil,Bool.and_true,Bool.and_eq_true,decide_eq_true_eq]
 constructor
 ·rintro⟨⟨⟨⟨⟨h1,h2⟩,h3⟩,h4⟩,h5⟩,h6⟩;exact⟨h1,⟨h2,h3⟩,⟨h4,h5⟩,by omega⟩
 ·rintro⟨h1,⟨h2,h3⟩,⟨h4,h5⟩,h6⟩;exact⟨⟨⟨⟨⟨h1,h2⟩,h3⟩,h4⟩,h5⟩,by omega⟩
theorem KV (p:aK):nV N p=some (decide (wJ p)):=by
 unfold nV bK
 rw[Option.bind_some]
 refine congrArg some (RA ?_)
 unfold wJ uZ
 simp only[Bool.and_eq_true,decide_eq_true_eq]
 constructor
 ·rintro⟨⟨⟨⟨⟨h1,h2⟩,h3⟩,h4⟩,h5⟩,h6⟩;exact⟨h1,⟨h2,h3⟩,⟨h4,h5⟩,by omega⟩
 ·rintro⟨h1,⟨h2,h3⟩,⟨h4,h5⟩,h6⟩;exact⟨⟨⟨⟨⟨h1,h2⟩,h3⟩,h4⟩,h5⟩,by omega⟩
end
def eh:dP:=⟨(⟨0,0⟩:bB),0,0,0,[],[],[]⟩
def zV:Vector Int 8:=Vector.replicate 8 (default:Int)
def Dx:aD:=⟨0,zV,zV,zV⟩
def Dy:aK:=⟨0,0,0,[]⟩
def jP (e:aB):aB :=
 bif e.Kind==1 then ⟨e.Kind,e.cE,e.Request,e.Op,0,0,[],Dx,0,zV,0,Dy,0,0,0⟩ else
 bif e.Kind==2 then ⟨e.Kind,0,0,eh,e.Origin,e.Seq,e.fP,Dx,0,zV,0,Dy,0,0,0⟩ else
 bif e.Kind==3 then ⟨e.Kind,0,0,eh,0,0,[],e.aY,0,zV,0,Dy,0,0,0⟩ else
 bif e.Kind==4 then ⟨e.Kind,0,0,eh,0,e.Seq,[],Dx,e.aS,e.aH,e.bH,Dy,0,0,0⟩ else
 bif e.Kind==5 then ⟨e.Kind,0,0,eh,0,0,[],Dx,0,zV,0,e.Part,0,0,0⟩ else
 bif e.Kind==6 then ⟨e.Kind,0,0,eh,0,0,[],Dx,0,zV,0,Dy,e.Site,e.aV,0⟩ else
 bif e.Kind==7 then ⟨e.Kind,0,0,eh,0,0,[],Dx,0,zV,0,Dy,e.Site,0,0⟩ else
 bif e.Kind==8 then ⟨e.Kind,0,0,eh,0,0,[],Dx,0,zV,0,Dy,e.Site,0,e.Length⟩ else
 ⟨e.Kind,0,0,eh,0,0,[],Dx,0,zV,0,Dy,0,0,0⟩
def Ee (e:aB):Bool :=
 bif e.Kind==1 then decide (uZ e.cE)&&decide (0 < e.cE)&&decide (uZ e.Request)&&decide (0 < e.Request)&&decide (uN e.Op) else
 bif e.Kind==2 then decide (Jv e.Origin)&&decide (uZ e.Seq)&&decide (uY e.fP) else
 bif e.Kind==3 then decide (Ah e.aY) else
 bif e.Kind==4 then decide (uZ e.Seq)&&decide (Jv e.aS)&&decide (wK e.aH)&&decide (uZ e.bH) else
 bif e.Kind==5 then decide (wJ e.Part) else
 decide (Jv e.Site)&&decide (Jv e.aV)&&decide (uZ e.Length)
def Yi (e:aB):Prop:=0≤e.Kind∧e.Kind≤8
def KI (e:aB):Prop:=Yi e∧e=jP e∧Ee e=true
def aE3 (P:Prop)(o:Option Int):Prop:=(P∧o=some 0)∨(¬ P∧o=some 40)
theorem aDo {P:Prop}{b:Bool}(h:b=true↔P)(N:Nat):aE3 P ((bW N b).bind fun r=>some r):=by
 cases b with
 |true=>exact .inl ⟨h.1 rfl,rfl⟩
 |false=>exact .inr ⟨fun hp=>(by cases h.2 hp),rfl⟩
theorem YL {e:aB}(h:Bg e.Part.Data):Bg (jP e).Part.Data:=by
 unfold jP
 cases (e.Kind==1)<;>cases (e.Kind==2)<;>cases (e.Kind==3)<;>cases (e.Kind==4)<;>cases (e.Kind==5)<;>cases (e.Kind==6)<;>cases (e.Kind==7)<;>cases (e.Kind==8)<;>first|exact h | (intro x hx;cases hx)
theorem bw (e:aB):(jP e).fP.length≤e.fP.length:=by
 unfold jP
 cases (e.Kind==1)<;>cases (e.Kind==2)<;>cases (e.Kind==3)<;>cases (e.Kind==4)<;>cases (e.Kind==5)<;>cases (e.Kind==6)<;>cases (e.Kind==7)<;>cases (e.Kind==8)<;>simp
section
variable {N:Nat}
theorem ve {e:aB}(hb:Bg e.Part.Data):Hh (jP e) e=true↔e=jP e:=by
 rw[Zi (YL hb) hb];exact eq_comm
theorem u7 {e:aB}(hN:e.fP.length+20≤N)(hl:e.fP.length≤9223372036854775807)(hb:Bg e.Part.Data):aE3 (KI e) (cP N e):=by
 have hs:bI N (jP e) e=some (Hh (jP e) e):=CM (by have:=bw e;omega) (by have:=bw e;omega)
 have QS:=ve hb
 have wm:=fun o=>bf (N:=N) (by omega) o
 have hc1:=fun a=>Vx (N:=N) (l:=[a]) (by simp;omega) (by simp)
 have ow:=fun a b=>Vx (N:=N) (l:=[a,b]) (by simp;omega) (by simp)
 have hc8:=fun v:Vector Int 8=>Vx (N:=N) (l:=v.toList) (by simp;omega) (by simp)
 have UL:=fun a=>aBu (N:=N) (l:=[a]) (by simp;omega) (by simp)
 have hs2:=fun a b=>aBu (N:=N) (l:=[a,b]) (by simp;omega) (by simp)
 have Oz:=H4 (N:=N) (l:=e.fP) (by omega) hl
 have w5:=fun x=>UX (N:=N) (by omega) x
 have y8:=fun x=>ZW (N:=N) (by omega) x
 have hm:Yi e→∀ b:Bool,(b=true↔e=jP e∧Ee e=true)→aE3 (KI e) ((bW N b).bind fun r=>some r):=fun hk b h=>aDo (h.trans ⟨fun h=>⟨hk,h⟩,fun h=>h.2⟩) N
 by_cases hk:Yi e
 ·replace hm:=hm hk
  have jm:e.Kind=0∨e.Kind=1∨e.Kind=2∨e.Kind=3∨e.Kind=4∨e.Kind=5∨e.Kind=6∨e.Kind=7∨e.Kind=8:=by unfold Yi at hk;omega
  obtain⟨kd,a2,a3,a4,a5,a6,a7,a8,a9,eT,eK,eL,eA,eB,jA⟩:=e
  simp only at jm
  rcases jm with rfl|rfl|rfl|rfl|rfl|rfl|rfl|rfl|rfl
  ·have hz:cP N (⟨0,a2,a3,a4,a5,a6,a7,a8,a9,eT,eK,eL,eA,eB,jA⟩:aB)=((bI N (jP ⟨0,a2,a3,a4,a5,a6,a7,a8,a9,eT,eK,eL,eA,eB,jA⟩) ⟨0,a2,a3,a4,a5,a6,a7,a8,a9,eT,eK,eL,eA,eB,jA⟩).bind fun r1=>((bW N r1).bind fun r2=>(some r2))):=rfl
   rw[hz,hs,Option.bind_some]
   refine hm _ (QS.trans ⟨fun h=>⟨h,?_⟩,fun h=>h.1⟩)
   rw[h];rfl
  ·have hz:cP N (⟨1,a2,a3,a4,a5,a6,a7,a8,a9,eT,eK,eL,eA,eB,jA⟩:aB)=((cK N [a2,a3]).bind fun r3 =>
     ((bif ((r3&&(decide (0 < a2)))&&(decide (0 < a3))) then yY N a4 else some default).bind fun r4 =>
     ((bif (((r3&&(decide (0 < a2)))&&(decide (0 < a3)))&&r4) then bI N (jP ⟨1,a2,a3,a4,a5,a6,a7,a8,a9,eT,eK,eL,eA,eB,jA⟩) ⟨1,a2,a3,a4,a5,a6,a7,a8,a9,eT,eK,eL,eA,eB,jA⟩ else some default).bind fun r5 =>
     ((bW N ((((r3&&(decide (0 < a2)))&&(decide (0 < a3)))&&r4)&&r5)).bind fun r6=>(some r6))))):=rfl
   rw[hz,ow,Option.bind_some,wm,hs]
   simp only[eJ,Option.bind_some,gX]
   refine hm _ ?_
   rw[show Ee (⟨1,a2,a3,a4,a5,a6,a7,a8,a9,eT,eK,eL,eA,eB,jA⟩:aB)=(decide (uZ a2)&&decide (0 < a2)&&decide (uZ a3)&&decide (0 < a3)&&decide (uN a4)) from rfl]
   simp only[Bool.and_eq_true,QS,List.all_cons,List.all_nil,Bool.and_true]
   constructor
   ·rintro⟨⟨⟨⟨⟨h1,h2⟩,h3⟩,h4⟩,h5⟩,h6⟩;exact⟨h6,⟨⟨⟨h1,h3⟩,h2⟩,h4⟩,h5⟩
   ·rintro⟨h6,⟨⟨⟨h1,h3⟩,h2⟩,h4⟩,h5⟩;exact⟨⟨⟨⟨⟨h1,h2⟩,h3⟩,h4⟩,h5⟩,h6⟩
  ·have hz:cP N (⟨2,a2,a3,a4,a5,a6,a7,a8,a9,eT,eK,eL,eA,eB,jA⟩:aB)=(((eI N [a5]).bind fun r7 =>
    ((bif r7 then cK N [a6] else some default).bind fun r8 =>
    ((bif (r7&&r8) then kW N a7 1 else some default).bind fun r9 =>
    ((bif ((r7&&r8)&&r9) then bI N (jP (⟨2,a2,a3,a4,a5,a6,a7,a8,a9,eT,eK,eL,eA,eB,jA⟩:aB)) (⟨2,a2,a3,a4,a5,a6,a7,a8,a9,eT,eK,eL,eA,eB,jA⟩:aB) else some default).bind fun Nn =>
    ((bW N (((r7&&r8)&&r9)&&Nn)).bind fun Vl =>
    (some Vl))))))):=rfl
   rw[hz]
   simp only[UL,hs2,hc1,ow,Oz,w5,y8,hs,eJ,Option.bind_some,gX,List.all_cons,List.all_nil,Bool.and_true]
   refine hm _ ?_
   rw[show Ee (⟨2,a2,a3,a4,a5,a6,a7,a8,a9,eT,eK,eL,eA,eB,jA⟩:aB)=(decide (Jv a5)&&decide (uZ a6)&&decide (uY a7)) from rfl]
   simp only[Bool.and_eq_true,QS]
   exact⟨fun q=>⟨q.2,q.1⟩,fun q=>⟨q.2,q.1⟩⟩
  ·have hz:cP N (⟨3,a2,a3,a4,a5,a6,a7,a8,a9,eT,eK,eL,eA,eB,jA⟩:aB)=(((iW N a8).bind fun Tt =>
    ((bif Tt then bI N (jP (⟨3,a2,a3,a4,a5,a6,a7,a8,a9,eT,eK,eL,eA,eB,jA⟩:aB)) (⟨3,a2,a3,a4,a5,a6,a7,a8,a9,eT,eK,eL,eA,eB,jA⟩:aB) else some default).bind fun EJ =>
    ((bW N (Tt&&EJ)).bind fun JX =>
    (some JX))))):=rfl
   rw[hz]
   simp only[UL,hs2,hc1,ow,Oz,w5,y8,hs,eJ,Option.bind_some,gX,List.all_cons,List.all_nil,Bool.and_true]
   refine hm _ ?_
   rw[show Ee (⟨3,a2,a3,a4,a5,a6,a7,a8,a9,eT,eK,eL,eA,eB,jA⟩:aB)=(decide (Ah a8)) from rfl]
   simp only[Bool.and_eq_true,QS]
   exact and_comm
  ·have hz:cP N (⟨4,a2,a3,a4,a5,a6,a7,a8,a9,eT,eK,eL,eA,eB,jA⟩:aB)=(((cK N [a6,eK]).bind fun Ci =>
    ((bif Ci then eI N [a9] else some default).bind fun Jh =>
    (bif (Ci&&Jh) then
    ((bif (Ci&&Jh) then cK N (eT.toList) else some default).bind fun Kc =>
    ((bif ((Ci&&Jh)&&Kc) then bI N (jP (⟨4,a2,a3,a4,a5,a6,a7,a8,a9,eT,eK,eL,eA,eB,jA⟩:aB)) (⟨4,a2,a3,a4,a5,a6,a7,a8,a9,eT,eK,eL,eA,eB,jA⟩:aB) else some default).bind fun j7 =>
    ((bW N (((Ci&&Jh)&&Kc)&&j7)).bind fun R5 =>
    (some R5))))
    else
    ((bif false then bI N (jP (⟨4,a2,a3,a4,a5,a6,a7,a8,a9,eT,eK,eL,eA,eB,jA⟩:aB)) (⟨4,a2,a3,a4,a5,a6,a7,a8,a9,eT,eK,eL,eA,eB,jA⟩:aB) else some default).bind fun fh =>
    ((bW N false).bind fun fj =>
    (some fj))))))):=rfl
   rw[hz,ow,Option.bind_some]
   simp only[UL,hc8,hs,MH,eJ,Option.bind_some,gX,List.all_cons,List.all_nil,Bool.and_true,cond_false,Bool.false_and]
   by_cases h:(decide (uZ a6)&&decide (uZ eK)&&decide (Jv a9))=true
   ·rw[h]
    simp only[cond_true,Bool.true_and]
    refine hm _ ?_
    rw[show Ee (⟨4,a2,a3,a4,a5,a6,a7,a8,a9,eT,eK,eL,eA,eB,jA⟩:aB)=(decide (uZ a6)&&decide (Jv a9)&&decide (wK eT)&&decide (uZ eK)) from rfl]
    simp only[Bool.and_eq_true]at h
    simp only[Bool.and_eq_true,QS]
    exact⟨fun q=>⟨q.2,⟨⟨h.1.1,h.2⟩,q.1⟩,h.1.2⟩,fun q=>⟨q.2.1.2,q.1⟩⟩
   ·rw[Bool.eq_false_iff.2 h]
    simp only[cond_false]
    refine hm _ ?_
    rw[show Ee (⟨4,a2,a3,a4,a5,a6,a7,a8,a9,eT,eK,eL,eA,eB,jA⟩:aB)=(decide (uZ a6)&&decide (Jv a9)&&decide (wK eT)&&decide (uZ eK)) from rfl]
    simp only[Bool.and_eq_true,Bool.false_eq_true,false_iff]at h ⊢
    exact fun q=>h ⟨⟨q.2.1.1.1,q.2.2⟩,q.2.1.1.2⟩
  ·have hz:cP N (⟨5,a2,a3,a4,a5,a6,a7,a8,a9,eT,eK,eL,eA,eB,jA⟩:aB)=(((fE N eL).bind fun V5 =>
    ((bif V5 then bI N (jP (⟨5,a2,a3,a4,a5,a6,a7,a8,a9,eT,eK,eL,eA,eB,jA⟩:aB)) (⟨5,a2,a3,a4,a5,a6,a7,a8,a9,eT,eK,eL,eA,eB,jA⟩:aB) else some default).bind fun QV =>
    ((bW N (V5&&QV)).bind fun kr =>
    (some kr))))):=rfl
   rw[hz]
   simp only[UL,hs2,hc1,ow,Oz,w5,y8,hs,eJ,Option.bind_some,gX,List.all_cons,List.all_nil,Bool.and_true]
   refine hm _ ?_
   rw[show Ee (⟨5,a2,a3,a4,a5,a6,a7,a8,a9,eT,eK,eL,eA,eB,jA⟩:aB)=(decide (wJ eL)) from rfl]
   simp only[Bool.and_eq_true,QS]
   exact and_comm
  ·have hz:cP N (⟨6,a2,a3,a4,a5,a6,a7,a8,a9,eT,eK,eL,eA,eB,jA⟩:aB)=(((eI N [eA,eB]).bind fun cl =>
    ((bif cl then bI N (jP (⟨6,a2,a3,a4,a5,a6,a7,a8,a9,eT,eK,eL,eA,eB,jA⟩:aB)) (⟨6,a2,a3,a4,a5,a6,a7,a8,a9,eT,eK,eL,eA,eB,jA⟩:aB) else some default).bind fun qf =>
    ((bW N (cl&&qf)).bind fun fk =>
    (some fk))))):=rfl
   rw[hz]
   simp only[UL,hs2,hc1,ow,Oz,w5,y8,hs,eJ,Option.bind_some,gX,List.all_cons,List.all_nil,Bool.and_true]
   refine hm _ ?_
   rw[show Ee (⟨6,a2,a3,a4,a5,a6,a7,a8,a9,eT,eK,eL,eA,eB,jA⟩:aB)=(decide (Jv eA)&&decide (Jv eB)&&decide (uZ jA)) from rfl]
   simp only[Bool.and_eq_true,QS]
   refine⟨fun q=>⟨q.2,q.1,?_⟩,fun q=>⟨q.2.1,q.1⟩⟩
   have:=congrArg aB.Length q.2
   change jA=0 at this
   subst this;exact decide_eq_true ⟨by decide,by decide⟩
  ·have hz:cP N (⟨7,a2,a3,a4,a5,a6,a7,a8,a9,eT,eK,eL,eA,eB,jA⟩:aB)=(((eI N [eA]).bind fun QW =>
    ((bif QW then bI N (jP (⟨7,a2,a3,a4,a5,a6,a7,a8,a9,eT,eK,eL,eA,eB,jA⟩:aB)) (⟨7,a2,a3,a4,a5,a6,a7,a8,a9,eT,eK,eL,eA,eB,jA⟩:aB) else some default).bind fun qg =>
    ((bW N (QW&&qg)).bind fun uv =>
    (some uv))))):=rfl
   rw[hz]
   simp only[UL,hs2,hc1,ow,Oz,w5,y8,hs,eJ,Option.bind_some,gX,List.all_cons,List.all_nil,Bool.and_true]
   refine hm _ ?_
   rw[show Ee (⟨7,a2,a3,a4,a5,a6,a7,a8,a9,eT,eK,eL,eA,eB,jA⟩:aB)=(decide (Jv eA)&&decide (Jv eB)&&decide (uZ jA)) from rfl]
   simp only[Bool.and_eq_true,QS]
   refine⟨fun q=>⟨q.2,⟨q.1,?_⟩,?_⟩,fun q=>⟨q.2.1.1,q.1⟩⟩
   ·have:=congrArg aB.aV q.2
    change eB=0 at this
    subst this;exact decide_eq_true ⟨by decide,by decide⟩
   ·have:=congrArg aB.Length q.2
    change jA=0 at this
    subst this;exact decide_eq_true ⟨by decide,by decide⟩
  ·have hz:cP N (⟨8,a2,a3,a4,a5,a6,a7,a8,a9,eT,eK,eL,eA,eB,jA⟩:aB)=(((eI N [eA]).bind fun V6 =>
    ((bif V6 then cK N [jA] else some default).bind fun fm =>
    ((bif (V6&&fm) then bI N (jP (⟨8,a2,a3,a4,a5,a6,a7,a8,a9,eT,eK,eL,eA,eB,jA⟩:aB)) (⟨8,a2,a3,a4,a5,a6,a7,a8,a9,eT,eK,eL,eA,eB,jA⟩:aB) else some default).bind fun qh =>
    ((bW N ((V6&&fm)&&qh)).bind fun qi =>
    (some qi)))))):=rfl
   rw[hz]
   simp only[UL,hs2,hc1,ow,Oz,w5,y8,hs,eJ,Option.bind_some,gX,List.all_cons,List.all_nil,Bool.and_true]
   refine hm _ ?_
   rw[show Ee (⟨8,a2,a3,a4,a5,a6,a7,a8,a9,eT,eK,eL,eA,eB,jA⟩:aB)=(decide (Jv eA)&&decide (Jv eB)&&decide (uZ jA)) from rfl]
   simp only[Bool.and_eq_true,QS]
   refine⟨fun q=>⟨q.2,⟨q.1.1,?_⟩,q.1.2⟩,fun q=>⟨⟨q.2.1.1,q.2.2⟩,q.1⟩⟩
   have:=congrArg aB.aV q.2
   change eB=0 at this
   subst this;exact decide_eq_true ⟨by decide,by decide⟩
 ·refine Or.inr ⟨fun h=>hk h.1,?_⟩
  have dF:∀ k:Int,0≤k→k≤8→(e.Kind==k)=false:=fun k h0 h8=>by
   refine beq_eq_false_iff_ne.2 fun h=>hk ?_
   unfold Yi;omega
  unfold cP
  rw[dF 0 (by decide) (by decide),dF 1 (by decide) (by decide),dF 2 (by decide) (by decide),dF 3 (by decide) (by decide),dF 4 (by decide) (by decide),dF 5 (by decide) (by decide),dF 6 (by decide) (by decide),dF 7 (by decide) (by decide),dF 8 (by decide) (by decide)]
  rfl
end
def VerB (P:Prop)(o:Option Bool):Prop:=(P∧o=some true)∨(¬ P∧o=some false)
theorem Qj {P:Prop}{b:Bool}(h:b=true↔P):VerB P (some b):=by
 cases b with
 |true=>exact .inl ⟨h.1 rfl,rfl⟩
 |false=>exact .inr ⟨fun hp=>(by cases h.2 hp),rfl⟩
section
variable {N:Nat}
theorem lY (n:Int):bK N n=some (decide (uZ n)):=by
 unfold bK
 exact congrArg some (RA (by unfold uZ;simp only[Bool.and_eq_true,decide_eq_true_eq]))
theorem vI (n:Int):cL N n=some (decide (Jv n)):=by
 unfold cL
 exact congrArg some (RA (by unfold Jv;simp only[Bool.and_eq_true,decide_eq_true_eq]))
theorem l8 {e:aB}(hN:e.fP.length+20≤N)(hl:e.fP.length≤9223372036854775807)(hb:Bg e.Part.Data):VerB (KI e) (eF N e):=by
 have hs:dH N e (jP e)=some (Hh e (jP e)):=Np (by omega) (by omega)
 have QS:Hh e (jP e)=true↔e=jP e:=Zi hb (YL hb)
 have Oz:=J0 (N:=N) (l:=e.fP) (by omega) hl
 have w5:=fun x=>HE (N:=N) (by omega) x
 have O3:=fun x=>CI (N:=N) (by omega) x
 have y8:=fun x=>KV (N:=N) x
 have wm:=fun x=>VG (N:=N) x
 by_cases hk:Yi e
 ·have jm:e.Kind=0∨e.Kind=1∨e.Kind=2∨e.Kind=3∨e.Kind=4∨e.Kind=5∨e.Kind=6∨e.Kind=7∨e.Kind=8:=by unfold Yi at hk;omega
  obtain⟨kd,a2,a3,a4,a5,a6,a7,a8,a9,eT,eK,eL,eA,eB,jA⟩:=e
  simp only at jm
  rcases jm with rfl|rfl|rfl|rfl|rfl|rfl|rfl|rfl|rfl
  ·have hz:eF N (⟨0,a2,a3,a4,a5,a6,a7,a8,a9,eT,eK,eL,eA,eB,jA⟩:aB)=((dH N (⟨0,a2,a3,a4,a5,a6,a7,a8,a9,eT,eK,eL,eA,eB,jA⟩:aB) (jP ⟨0,a2,a3,a4,a5,a6,a7,a8,a9,eT,eK,eL,eA,eB,jA⟩)).bind fun r2=>bif (!r2) then some false else ((cL N eA).bind fun Ci =>
     ((bif Ci then cL N eB else some default).bind fun Jh =>
     ((bif (Ci&&Jh) then bK N jA else some default).bind fun Kc =>
     (some ((Ci&&Jh)&&Kc)))))):=rfl
   have aj:((cL N eA).bind fun Ci =>
     ((bif Ci then cL N eB else some default).bind fun Jh =>
     ((bif (Ci&&Jh) then bK N jA else some default).bind fun Kc =>
     (some ((Ci&&Jh)&&Kc)))))=some (Ee (⟨0,a2,a3,a4,a5,a6,a7,a8,a9,eT,eK,eL,eA,eB,jA⟩:aB)):=by
    simp only[lY,vI,Oz,w5,O3,y8,wm,eJ,Option.bind_some,gX]
    rfl
   rw[hz,hs,Option.bind_some,aj]
   cases hc:Hh (⟨0,a2,a3,a4,a5,a6,a7,a8,a9,eT,eK,eL,eA,eB,jA⟩:aB) (jP ⟨0,a2,a3,a4,a5,a6,a7,a8,a9,eT,eK,eL,eA,eB,jA⟩) with
   |true=>exact Qj ⟨fun h=>⟨hk,QS.1 hc,h⟩,fun h=>h.2.2⟩
   |false=>exact .inr ⟨fun h=>(by rw[QS.2 h.2.1]at hc;cases hc),rfl⟩
  ·have hz:eF N (⟨1,a2,a3,a4,a5,a6,a7,a8,a9,eT,eK,eL,eA,eB,jA⟩:aB)=((dH N (⟨1,a2,a3,a4,a5,a6,a7,a8,a9,eT,eK,eL,eA,eB,jA⟩:aB) (jP ⟨1,a2,a3,a4,a5,a6,a7,a8,a9,eT,eK,eL,eA,eB,jA⟩)).bind fun r2=>bif (!r2) then some false else ((bK N a2).bind fun r3 =>
     ((bif (r3&&(decide (0 < a2))) then bK N a3 else some default).bind fun r4 =>
     ((bif (((r3&&(decide (0 < a2)))&&r4)&&(decide (0 < a3))) then xD N a4 else some default).bind fun r5 =>
     (some ((((r3&&(decide (0 < a2)))&&r4)&&(decide (0 < a3)))&&r5)))))):=rfl
   have aj:((bK N a2).bind fun r3 =>
     ((bif (r3&&(decide (0 < a2))) then bK N a3 else some default).bind fun r4 =>
     ((bif (((r3&&(decide (0 < a2)))&&r4)&&(decide (0 < a3))) then xD N a4 else some default).bind fun r5 =>
     (some ((((r3&&(decide (0 < a2)))&&r4)&&(decide (0 < a3)))&&r5)))))=some (Ee (⟨1,a2,a3,a4,a5,a6,a7,a8,a9,eT,eK,eL,eA,eB,jA⟩:aB)):=by
    simp only[lY,vI,Oz,w5,O3,y8,wm,eJ,Option.bind_some,gX]
    rfl
   rw[hz,hs,Option.bind_some,aj]
   cases hc:Hh (⟨1,a2,a3,a4,a5,a6,a7,a8,a9,eT,eK,eL,eA,eB,jA⟩:aB) (jP ⟨1,a2,a3,a4,a5,a6,a7,a8,a9,eT,eK,eL,eA,eB,jA⟩) with
   |true=>exact Qj ⟨fun h=>⟨hk,QS.1 hc,h⟩,fun h=>h.2.2⟩
   |false=>exact .inr ⟨fun h=>(by rw[QS.2 h.2.1]at hc;cases hc),rfl⟩
  ·have hz:eF N (⟨2,a2,a3,a4,a5,a6,a7,a8,a9,eT,eK,eL,eA,eB,jA⟩:aB)=((dH N (⟨2,a2,a3,a4,a5,a6,a7,a8,a9,eT,eK,eL,eA,eB,jA⟩:aB) (jP ⟨2,a2,a3,a4,a5,a6,a7,a8,a9,eT,eK,eL,eA,eB,jA⟩)).bind fun r2=>bif (!r2) then some false else ((cL N a5).bind fun r6 =>
     ((bif r6 then bK N a6 else some default).bind fun r7 =>
     ((bif (r6&&r7) then Fh N a7 else some default).bind fun r8 =>
     (some ((r6&&r7)&&r8)))))):=rfl
   have aj:((cL N a5).bind fun r6 =>
     ((bif r6 then bK N a6 else some default).bind fun r7 =>
     ((bif (r6&&r7) then Fh N a7 else some default).bind fun r8 =>
     (some ((r6&&r7)&&r8)))))=some (Ee (⟨2,a2,a3,a4,a5,a6,a7,a8,a9,eT,eK,eL,eA,eB,jA⟩:aB)):=by
    simp only[lY,vI,Oz,w5,O3,y8,wm,eJ,Option.bind_some,gX]
    rfl
   rw[hz,hs,Option.bind_some,aj]
   cases hc:Hh (⟨2,a2,a3,a4,a5,a6,a7,a8,a9,eT,eK,eL,eA,eB,jA⟩:aB) (jP ⟨2,a2,a3,a4,a5,a6,a7,a8,a9,eT,eK,eL,eA,eB,jA⟩) with
   |true=>exact Qj ⟨fun h=>⟨hk,QS.1 hc,h⟩,fun h=>h.2.2⟩
   |false=>exact .inr ⟨fun h=>(by rw[QS.2 h.2.1]at hc;cases hc),rfl⟩
  ·have hz:eF N (⟨3,a2,a3,a4,a5,a6,a7,a8,a9,eT,eK,eL,eA,eB,jA⟩:aB)=((dH N (⟨3,a2,a3,a4,a5,a6,a7,a8,a9,eT,eK,eL,eA,eB,jA⟩:aB) (jP ⟨3,a2,a3,a4,a5,a6,a7,a8,a9,eT,eK,eL,eA,eB,jA⟩)).bind fun r2=>bif (!r2) then some false else ((oV N a8).bind fun r9=>(some r9))):=rfl
   have aj:((oV N a8).bind fun r9=>(some r9))=some (Ee (⟨3,a2,a3,a4,a5,a6,a7,a8,a9,eT,eK,eL,eA,eB,jA⟩:aB)):=by
    simp only[lY,vI,Oz,w5,O3,y8,wm,eJ,Option.bind_some,gX]
    rfl
   rw[hz,hs,Option.bind_some,aj]
   cases hc:Hh (⟨3,a2,a3,a4,a5,a6,a7,a8,a9,eT,eK,eL,eA,eB,jA⟩:aB) (jP ⟨3,a2,a3,a4,a5,a6,a7,a8,a9,eT,eK,eL,eA,eB,jA⟩) with
   |true=>exact Qj ⟨fun h=>⟨hk,QS.1 hc,h⟩,fun h=>h.2.2⟩
   |false=>exact .inr ⟨fun h=>(by rw[QS.2 h.2.1]at hc;cases hc),rfl⟩
  ·have hz:eF N (⟨4,a2,a3,a4,a5,a6,a7,a8,a9,eT,eK,eL,eA,eB,jA⟩:aB)=((dH N (⟨4,a2,a3,a4,a5,a6,a7,a8,a9,eT,eK,eL,eA,eB,jA⟩:aB) (jP ⟨4,a2,a3,a4,a5,a6,a7,a8,a9,eT,eK,eL,eA,eB,jA⟩)).bind fun r2=>bif (!r2) then some false else ((bK N a6).bind fun Nn =>
     ((bif Nn then cL N a9 else some default).bind fun Vl =>
     ((bif (Nn&&Vl) then kG N eT else some default).bind fun Tt =>
     ((bif ((Nn&&Vl)&&Tt) then bK N eK else some default).bind fun EJ =>
     (some (((Nn&&Vl)&&Tt)&&EJ))))))):=rfl
   have aj:((bK N a6).bind fun Nn =>
     ((bif Nn then cL N a9 else some default).bind fun Vl =>
     ((bif (Nn&&Vl) then kG N eT else some default).bind fun Tt =>
     ((bif ((Nn&&Vl)&&Tt) then bK N eK else some default).bind fun EJ =>
     (some (((Nn&&Vl)&&Tt)&&EJ))))))=some (Ee (⟨4,a2,a3,a4,a5,a6,a7,a8,a9,eT,eK,eL,eA,eB,jA⟩:aB)):=by
    simp only[lY,vI,Oz,w5,O3,y8,wm,eJ,Option.bind_some,gX]
    rfl
   rw[hz,hs,Option.bind_some,aj]
   cases hc:Hh (⟨4,a2,a3,a4,a5,a6,a7,a8,a9,eT,eK,eL,eA,eB,jA⟩:aB) (jP ⟨4,a2,a3,a4,a5,a6,a7,a8,a9,eT,eK,eL,eA,eB,jA⟩) with
   |true=>exact Qj ⟨fun h=>⟨hk,QS.1 hc,h⟩,fun h=>h.2.2⟩
   |false=>exact .inr ⟨fun h=>(by rw[QS.2 h.2.1]at hc;cases hc),rfl⟩
  ·have hz:eF N (⟨5,a2,a3,a4,a5,a6,a7,a8,a9,eT,eK,eL,eA,eB,jA⟩:aB)=((dH N (⟨5,a2,a3,a4,a5,a6,a7,a8,a9,eT,eK,eL,eA,eB,jA⟩:aB) (jP ⟨5,a2,a3,a4,a5,a6,a7,a8,a9,eT,eK,eL,eA,eB,jA⟩)).bind fun r2=>bif (!r2) then some false else ((nV N eL).bind fun JX=>(some JX))):=rfl
   have aj:((nV N eL).bind fun JX=>(some JX))=some (Ee (⟨5,a2,a3,a4,a5,a6,a7,a8,a9,eT,eK,eL,eA,eB,jA⟩:aB)):=by
    simp only[lY,vI,Oz,w5,O3,y8,wm,eJ,Option.bind_some,gX]
    rfl
   rw[hz,hs,Option.bind_some,aj]
   cases hc:Hh (⟨5,a2,a3,a4,a5,a6,a7,a8,a9,eT,eK,eL,eA,eB,jA⟩:aB) (jP ⟨5,a2,a3,a4,a5,a6,a7,a8,a9,eT,eK,eL,eA,eB,jA⟩) with
   |true=>exact Qj ⟨fun h=>⟨hk,QS.1 hc,h⟩,fun h=>h.2.2⟩
   |false=>exact .inr ⟨fun h=>(by rw[QS.2 h.2.1]at hc;cases hc),rfl⟩
  ·have hz:eF N (⟨6,a2,a3,a4,a5,a6,a7,a8,a9,eT,eK,eL,eA,eB,jA⟩:aB)=((dH N (⟨6,a2,a3,a4,a5,a6,a7,a8,a9,eT,eK,eL,eA,eB,jA⟩:aB) (jP ⟨6,a2,a3,a4,a5,a6,a7,a8,a9,eT,eK,eL,eA,eB,jA⟩)).bind fun r2=>bif (!r2) then some false else ((cL N eA).bind fun Ci =>
     ((bif Ci then cL N eB else some default).bind fun Jh =>
     ((bif (Ci&&Jh) then bK N jA else some default).bind fun Kc =>
     (some ((Ci&&Jh)&&Kc)))))):=rfl
   have aj:((cL N eA).bind fun Ci =>
     ((bif Ci then cL N eB else some default).bind fun Jh =>
     ((bif (Ci&&Jh) then bK N jA else some default).bind fun Kc =>
     (some ((Ci&&Jh)&&Kc)))))=some (Ee (⟨6,a2,a3,a4,a5,a6,a7,a8,a9,eT,eK,eL,eA,eB,jA⟩:aB)):=by
    simp only[lY,vI,Oz,w5,O3,y8,wm,eJ,Option.bind_some,gX]
    rfl
   rw[hz,hs,Option.bind_some,aj]
   cases hc:Hh (⟨6,a2,a3,a4,a5,a6,a7,a8,a9,eT,eK,eL,eA,eB,jA⟩:aB) (jP ⟨6,a2,a3,a4,a5,a6,a7,a8,a9,eT,eK,eL,eA,eB,jA⟩) with
   |true=>exact Qj ⟨fun h=>⟨hk,QS.1 hc,h⟩,fun h=>h.2.2⟩
   |false=>exact .inr ⟨fun h=>(by rw[QS.2 h.2.1]at hc;cases hc),rfl⟩
  ·have hz:eF N (⟨7,a2,a3,a4,a5,a6,a7,a8,a9,eT,eK,eL,eA,eB,jA⟩:aB)=((dH N (⟨7,a2,a3,a4,a5,a6,a7,a8,a9,eT,eK,eL,eA,eB,jA⟩:aB) (jP ⟨7,a2,a3,a4,a5,a6,a7,a8,a9,eT,eK,eL,eA,eB,jA⟩)).bind fun r2=>bif (!r2) then some false else ((cL N eA).bind fun Ci =>
     ((bif Ci then cL N eB else some default).bind fun Jh =>
     ((bif (Ci&&Jh) then bK N jA else some default).bind fun Kc =>
     (some ((Ci&&Jh)&&Kc)))))):=rfl
   have aj:((cL N eA).bind fun Ci =>
     ((bif Ci then cL N eB else some default).bind fun Jh =>
     ((bif (Ci&&Jh) then bK N jA else some default).bind fun Kc =>
     (some ((Ci&&Jh)&&Kc)))))=some (Ee (⟨7,a2,a3,a4,a5,a6,a7,a8,a9,eT,eK,eL,eA,eB,jA⟩:aB)):=by
    simp only[lY,vI,Oz,w5,O3,y8,wm,eJ,Option.bind_some,gX]
    rfl
   rw[hz,hs,Option.bind_some,aj]
   cases hc:Hh (⟨7,a2,a3,a4,a5,a6,a7,a8,a9,eT,eK,eL,eA,eB,jA⟩:aB) (jP ⟨7,a2,a3,a4,a5,a6,a7,a8,a9,eT,eK,eL,eA,eB,jA⟩) with
   |true=>exact Qj ⟨fun h=>⟨hk,QS.1 hc,h⟩,fun h=>h.2.2⟩
   |false=>exact .inr ⟨fun h=>(by rw[QS.2 h.2.1]at hc;cases hc),rfl⟩
  ·have hz:eF N (⟨8,a2,a3,a4,a5,a6,a7,a8,a9,eT,eK,eL,eA,eB,jA⟩:aB)=((dH N (⟨8,a2,a3,a4,a5,a6,a7,a8,a9,eT,eK,eL,eA,eB,jA⟩:aB) (jP ⟨8,a2,a3,a4,a5,a6,a7,a8,a9,eT,eK,eL,eA,eB,jA⟩)).bind fun r2=>bif (!r2) then some false else ((cL N eA).bind fun Ci =>
     ((bif Ci then cL N eB else some default).bind fun Jh =>
     ((bif (Ci&&Jh) then bK N jA else some default).bind fun Kc =>
     (some ((Ci&&Jh)&&Kc)))))):=rfl
   have aj:((cL N eA).bind fun Ci =>
     ((bif Ci then cL N eB else some default).bind fun Jh =>
     ((bif (Ci&&Jh) then bK N jA else some default).bind fun Kc =>
     (some ((Ci&&Jh)&&Kc)))))=some (Ee (⟨8,a2,a3,a4,a5,a6,a7,a8,a9,eT,eK,eL,eA,eB,jA⟩:aB)):=by
    simp only[lY,vI,Oz,w5,O3,y8,wm,eJ,Option.bind_some,gX]
    rfl
   rw[hz,hs,Option.bind_some,aj]
   cases hc:Hh (⟨8,a2,a3,a4,a5,a6,a7,a8,a9,eT,eK,eL,eA,eB,jA⟩:aB) (jP ⟨8,a2,a3,a4,a5,a6,a7,a8,a9,eT,eK,eL,eA,eB,jA⟩) with
   |true=>exact Qj ⟨fun h=>⟨hk,QS.1 hc,h⟩,fun h=>h.2.2⟩
   |false=>exact .inr ⟨fun h=>(by rw[QS.2 h.2.1]at hc;cases hc),rfl⟩
 ·refine Or.inr ⟨fun h=>hk h.1,?_⟩
  have dF:∀ k:Int,0≤k→k≤8→(e.Kind==k)=false:=fun k h0 h8=>by
   refine beq_eq_false_iff_ne.2 fun h=>hk ?_
   unfold Yi;omega
  unfold eF EP
  rw[dF 0 (by decide) (by decide),dF 1 (by decide) (by decide),dF 2 (by decide) (by decide),dF 3 (by decide) (by decide),dF 4 (by decide) (by decide),dF 5 (by decide) (by decide),dF 6 (by decide) (by decide),dF 7 (by decide) (by decide),dF 8 (by decide) (by decide)]
  rfl
end
theorem dE {n:Int}(h:uZ n):Fi n:=⟨by have:=h.1;omega,by have:=h.2;omega⟩
theorem vM {n:Int}(h:Jv n):Fi n:=⟨by have:=h.1;omega,by have:=h.2;omega⟩
def wg (e:aD):List (List Int):=[e.Number].map pI++e.cB.toList.map pI++e.iD.toList.map pI++e.aV.toList.map pI
def fg (p:aK):List (List Int):=[p.Qz].map pI++[p.Index,p.Hq].map pI++[pB p.Data]
def GX (l:List dP):List (List Int):=[(l.length:Int)].map pI++(l.map opC).flatten
def Md (e:aB):List (List Int) :=
 bif e.Kind==1 then [e.cE,e.Request].map pI++opC e.Op else
 bif e.Kind==2 then [e.Origin].map pI++[e.Seq].map pI++GX e.fP else
 bif e.Kind==3 then wg e.aY else
 bif e.Kind==4 then [e.Seq].map pI++[e.aS].map pI++e.aH.toList.map pI++[e.bH].map pI else
 bif e.Kind==5 then fg e.Part else
 bif e.Kind==6 then [e.Site,e.aV].map pI else
 bif e.Kind==7 then [e.Site].map pI else
 bif e.Kind==8 then [e.Site].map pI++[e.Length].map pI else []
def UD (e:aB):List (List Int):=[e.Kind].map pI++Md e
def E8 (e:aB):List Int:=(UD e).flatten
section
variable {N:Nat} {e0:Int} {w:List Int}
theorem fY (e:Int)(w:List Int)(cs:List (List Int)):(wr e w cs).2.1=true:=rfl
theorem Ir (hN:20≤N){a:Int}(ha:Fi a)(hw:w.length≤1048576):aC N [a] e0 true w=some (wr e0 w ([a].map pI)) :=
 OQ (by omega) (by simp;omega) (by simp) (by intro n hn;simp at hn;subst hn;exact ha) hw
theorem aI6 (hN:20≤N){a b:Int}(ha:Fi a)(hb:Fi b)(hw:w.length≤1048576):aC N [a,b] e0 true w=some (wr e0 w ([a,b].map pI)) :=
 OQ (by omega) (by simp;omega) (by simp) (by intro n hn;simp at hn;rcases hn with rfl|rfl<;>assumption) hw
theorem Xo (hN:20≤N){a:Int}(ha:Fi a)(hw:w.length≤1048576):aU N [a] e0 true w=some (wr e0 w ([a].map pI)) :=
 QC (by omega) (by simp;omega) (by simp) (by intro n hn;simp at hn;subst hn;exact ha) hw
theorem lk (hN:20≤N){a b:Int}(ha:Fi a)(hb:Fi b)(hw:w.length≤1048576):aU N [a,b] e0 true w=some (wr e0 w ([a,b].map pI)) :=
 QC (by omega) (by simp;omega) (by simp) (by intro n hn;simp at hn;rcases hn with rfl|rfl<;>assumption) hw
theorem pf (hN:20≤N){v:Vector Int 8}(hv:∀ n∈v.toList,Fi n)(hw:w.length≤1048576):aC N v.toList e0 true w=some (wr e0 w (v.toList.map pI)) :=
 OQ (by omega) (by simp;omega) (by simp) hv hw
theorem aBz (hN:20≤N){v:Vector Int 8}(hv:∀ n∈v.toList,Fi n)(hw:w.length≤1048576):aU N v.toList e0 true w=some (wr e0 w (v.toList.map pI)) :=
 QC (by omega) (by simp;omega) (by simp) hv hw
theorem IB {e:aD}(h:Ah e):(∀ n∈e.cB.toList,Fi n)∧(∀ n∈e.aV.toList,Fi n)∧∀ n∈e.iD.toList,Fi n:=by
 refine⟨fun n hn=>?_,fun n hn=>?_,fun n hn=>dE (h.2.1 n hn)⟩
 ·obtain⟨j,hj,rfl⟩:=List.getElem_of_mem hn
  have hj8:j < 8:=by simpa using hj
  have:=(h.2.2 j hj8).1
  rw[dv e.cB default hj8]at this
  have e1:e.cB.toList[j]=e.cB[j]:=by simp
  rw[e1];exact⟨by omega,by omega⟩
 ·obtain⟨j,hj,rfl⟩:=List.getElem_of_mem hn
  have hj8:j < 8:=by simpa using hj
  have:=(h.2.2 j hj8).2
  rw[dv e.aV default hj8]at this
  have e1:e.aV.toList[j]=e.aV[j]:=by simp
  rw[e1];exact⟨by omega,by omega⟩
theorem aAd (hN:20≤N){e:aD}(h:Ah e)(hw:w.length≤1048576):fK N e e0 true w=some (wr e0 w (wg e)):=by
 obtain⟨h1,h2,h3⟩:=IB h
 unfold fK
 rw[Ir hN (dE h.1) hw,Option.bind_some,fY,aBz hN h1 (dV hw _),cX,Option.bind_some,fY,pf hN h3 (dV hw _),cX,Option.bind_some,fY,aBz hN h2 (dV hw _),cX,Option.bind_some]
 rfl
theorem kp (hN:20≤N){p:aK}(h:wJ p)(hw:w.length≤1048576):dO N p e0 true w=some (wr e0 w (fg p)):=by
 obtain⟨h1,⟨h2,h3⟩,⟨h4,h5⟩,h6⟩:=h
 unfold dO
 rw[Ir hN (dE h1) hw,Option.bind_some,fY,lk hN ⟨by omega,by omega⟩ ⟨by omega,by omega⟩ (dV hw _),cX,Option.bind_some,fY,xe (by omega) (by omega) (dV hw _),Option.bind_some,XL,cX,Option.bind_some]
 rfl
theorem pz {l:List dP}(hN:l.length+20≤N)(h:uY l)(hw:w.length≤1048576):gK N l e0 true w=some (wr e0 w (GX l)):=by
 obtain⟨h1,h2,h3⟩:=h
 unfold gK
 rw[Xo (by omega) ⟨by omega,by omega⟩ hw,Option.bind_some]
 refine dU (fun q:hJ=>0≤q.t13∧q.t13≤(l.length:Int)∧q.b1=true∧q.Ed.length≤1048576∧wr q.b0 q.Ed ((l.drop q.t13.toNat).map opC).flatten=wr e0 w (GX l)) (fun q=>((l.length:Int) - q.t13).toNat) ?_ N _ ⟨by simp,by simp,rfl,dV hw _,?_⟩ (by simp;omega)
 ·rintro⟨i,b0,b1,Ed⟩ nx ⟨g0,g1,rfl,g3,hq⟩ ih
  simp only at g0 g1 g3 hq ih ⊢
  by_cases hi:i < l.length
  ·have hm:=h3 _ (jS (default:dP) g0 hi)
   rw[dC (default:dP) g0 hi,List.map_cons,List.flatten_cons,← cX]at hq
   simp only[decide_eq_true hi,dT g0 hi,cond_true]
   change (jN N (aE l i default) b0 true Ed).bind _=_
   rw[aA2 (by omega) hm g3,Option.bind_some,wrap64 (by omega) (by omega)]
   exact ih ⟨i+1,_,_,_⟩ ⟨by simp;omega,by simp;omega,rfl,dV g3 _,hq⟩ (by simp;omega)
  ·have:decide (i < (l.length:Int))=false:=by simpa using hi
   simp only[this,cond_false]
   rw[List.drop_eq_nil_of_le (by omega)]at hq
   rw[← hq];rfl
 ·simp only
  rw[cX];simp[GX]
theorem E9 {e:aB}(hN:e.fP.length+20≤N)(h:KI e)(hw:w.length≤1048576):eS N e e0 true w=some (wr e0 w (UD e)):=by
 obtain⟨hk,_,hc⟩:=h
 have jm:e.Kind=0∨e.Kind=1∨e.Kind=2∨e.Kind=3∨e.Kind=4∨e.Kind=5∨e.Kind=6∨e.Kind=7∨e.Kind=8:=by unfold Yi at hk;omega
 obtain⟨kd,a2,a3,a4,a5,a6,a7,a8,a9,eT,eK,eL,eA,eB,jA⟩:=e
 simp only at jm hN
 have h1:aU N [kd] e0 true w=some (wr e0 w ([kd].map pI)):=Xo (by omega) ⟨by omega,by omega⟩ hw
 have hw1:(wr e0 w ([kd].map pI)).2.2.length≤1048576:=dV hw _
 have Z6:∀ cs,wr (wr e0 w ([kd].map pI)).1 (wr e0 w ([kd].map pI)).2.2 cs=wr e0 w ([kd].map pI++cs):=fun cs=>cX _ _ _ _
 have Aw:20≤N:=by omega
 unfold eS
 simp only
 rw[h1,Option.bind_some,fY]
 rcases jm with rfl|rfl|rfl|rfl|rfl|rfl|rfl|rfl|rfl
 ·show some ((wr e0 w ([(0:Int)].map pI)).1,(wr e0 w ([(0:Int)].map pI)).2.1,(wr e0 w ([(0:Int)].map pI)).2.2)=some (wr e0 w ([(0:Int)].map pI++[]))
  rw[List.append_nil]
 ·replace hc:(decide (uZ a2)&&decide (0 < a2)&&decide (uZ a3)&&decide (0 < a3)&&decide (uN a4))=true:=hc
  simp only[Bool.and_eq_true,decide_eq_true_eq]at hc
  obtain⟨⟨⟨⟨c1,_⟩,c2⟩,_⟩,c3⟩:=hc
  simp only[Int.reduceBEq,cond_true,cond_false]
  rw[aI6 Aw (dE c1) (dE c2) hw1,cX,Option.bind_some,fY,aA2 Aw c3 (dV hw _),cX,Option.bind_some]
  show some (wr e0 w _)=some (wr e0 w _)
  simp only[UD,Md,Int.reduceBEq,cond_true,cond_false,List.append_assoc]
 ·replace hc:(decide (Jv a5)&&decide (uZ a6)&&decide (uY a7))=true:=hc
  simp only[Bool.and_eq_true,decide_eq_true_eq]at hc
  obtain⟨⟨c1,c2⟩,c3⟩:=hc
  simp only[Int.reduceBEq,cond_true,cond_false]
  rw[Xo Aw (vM c1) hw1,cX,Option.bind_some,fY,Ir Aw (dE c2) (dV hw _),cX,Option.bind_some,fY,pz hN c3 (dV hw _),cX,Option.bind_some]
  show some (wr e0 w _)=some (wr e0 w _)
  simp only[UD,Md,Int.reduceBEq,cond_true,cond_false,List.append_assoc]
 ·replace hc:(decide (Ah a8))=true:=hc
  simp only[Bool.and_eq_true,decide_eq_true_eq]at hc
  have c1:=hc
  simp only[Int.reduceBEq,cond_true,cond_false]
  rw[aAd Aw c1 hw1,cX,Option.bind_some]
  show some (wr e0 w _)=some (wr e0 w _)
  simp only[UD,Md,Int.reduceBEq,cond_true,cond_false,List.append_assoc]
 ·replace hc:(decide (uZ a6)&&decide (Jv a9)&&decide (wK eT)&&decide (uZ eK))=true:=hc
  simp only[Bool.and_eq_true,decide_eq_true_eq]at hc
  obtain⟨⟨⟨c1,c2⟩,c3⟩,c4⟩:=hc
  simp only[Int.reduceBEq,cond_true,cond_false]
  rw[Ir Aw (dE c1) hw1,cX,Option.bind_some,fY,Xo Aw (vM c2) (dV hw _),cX,Option.bind_some,fY,pf Aw (fun n hn=>dE (c3 n hn)) (dV hw _),cX,Option.bind_some,fY,Ir Aw (dE c4) (dV hw _),cX,Option.bind_some]
  show some (wr e0 w _)=some (wr e0 w _)
  simp only[UD,Md,Int.reduceBEq,cond_true,cond_false,List.append_assoc]
 ·replace hc:(decide (wJ eL))=true:=hc
  simp only[Bool.and_eq_true,decide_eq_true_eq]at hc
  have c1:=hc
  simp only[Int.reduceBEq,cond_true,cond_false]
  rw[kp Aw c1 hw1,cX,Option.bind_some]
  show some (wr e0 w _)=some (wr e0 w _)
  simp only[UD,Md,Int.reduceBEq,cond_true,cond_false,List.append_assoc]
 ·replace hc:(decide (Jv eA)&&decide (Jv eB)&&decide (uZ jA))=true:=hc
  simp only[Bool.and_eq_true,decide_eq_true_eq]at hc
  obtain⟨⟨c1,c2⟩,c3⟩:=hc
  simp only[Int.reduceBEq,cond_true,cond_false]
  rw[lk Aw (vM c1) (vM c2) hw1,cX,Option.bind_some]
  show some (wr e0 w _)=some (wr e0 w _)
  simp only[UD,Md,Int.reduceBEq,cond_true,cond_false,List.append_assoc]
 ·replace hc:(decide (Jv eA)&&decide (Jv eB)&&decide (uZ jA))=true:=hc
  simp only[Bool.and_eq_true,decide_eq_true_eq]at hc
  obtain⟨⟨c1,c2⟩,c3⟩:=hc
  simp only[Int.reduceBEq,cond_true,cond_false]
  rw[Xo Aw (vM c1) hw1,cX,Option.bind_some]
  show some (wr e0 w _)=some (wr e0 w _)
  simp only[UD,Md,Int.reduceBEq,cond_true,cond_false,List.append_assoc]
 ·replace hc:(decide (Jv eA)&&decide (Jv eB)&&decide (uZ jA))=true:=hc
  simp only[Bool.and_eq_true,decide_eq_true_eq]at hc
  obtain⟨⟨c1,c2⟩,c3⟩:=hc
  simp only[Int.reduceBEq,cond_true,cond_false]
  rw[Xo Aw (vM c1) hw1,cX,Option.bind_some,fY,Ir Aw (dE c3) (dV hw _),cX,Option.bind_some]
  show some (wr e0 w _)=some (wr e0 w _)
  simp only[UD,Md,Int.reduceBEq,cond_true,cond_false,List.append_assoc]
end
theorem kn {n:Int}(h:Fi n):Bg (pI n):=by
 intro x hx
 exact J8 9 (VQ n) (Nat.lt_trans (Lc h) (by decide)) x hx
def CB (cs:List (List Int)):Prop:=∀ c∈cs,Bg c
theorem CB.append {a b:List (List Int)}(ha:CB a)(hb:CB b):CB (a++b):=fun c hc=>(List.mem_append.1 hc).elim (ha c) (hb c)
theorem CB.flat {cs:List (List Int)}(h:CB cs):Bg cs.flatten:=fun x hx=>by
 obtain⟨c,hc,hx⟩:=List.mem_flatten.1 hx
 exact h c hc x hx
theorem CB.nil:CB []:=fun c hc=>by cases hc
theorem CB.ints {l:List Int}(h:∀ n∈l,Fi n):CB (l.map pI):=fun c hc=>by
 obtain⟨n,hn,rfl⟩:=List.mem_map.1 hc
 exact kn (h n hn)
theorem CB.vO {a:Int}(ha:Fi a):CB ([a].map pI):=CB.ints (by intro n hn;simp at hn;subst hn;exact ha)
theorem CB.jz {a b:Int}(ha:Fi a)(hb:Fi b):CB ([a,b].map pI):=CB.ints (by intro n hn;simp at hn;rcases hn with rfl|rfl<;>assumption)
theorem yj {l:List Int}(hl:l.length≤1048576)(h:Bg l):Bg (pB l):=fun x hx=>by
 unfold pB at hx
 rcases List.mem_append.1 hx with hx|hx
 ·exact kn (n:=(l.length:Int)) ⟨by omega,by omega⟩ x hx
 ·exact h x hx
theorem gd (s:List UInt8):Bg (Kf s):=fun x hx=>by
 unfold Kf at hx
 obtain⟨b,_,rfl⟩:=List.mem_map.1 hx
 have:=b.toNat_lt
 exact⟨by omega,by omega⟩
theorem CB.texts {l:List (List UInt8)}(h:∀ s∈l,s.length≤1048576):CB (l.map pT):=fun c hc=>by
 obtain⟨s,hs,rfl⟩:=List.mem_map.1 hc
 exact yj (by rw[Rc];exact h s hs) (gd s)
theorem CB.op {o:dP}(h:uN o):CB (opC o):=by
 obtain⟨h1,h2,h3,h4,h5,h6,h7,h8⟩:=h
 exact (((CB.vO ⟨by omega,by omega⟩).append (CB.jz ⟨by omega,by omega⟩ ⟨by omega,by omega⟩)).append (CB.jz ⟨by omega,by omega⟩ ⟨by omega,by omega⟩)).append (CB.texts (by intro s hs;simp at hs;rcases hs with rfl|rfl|rfl<;>omega))
theorem CB.ops {l:List dP}(h:uY l):CB (GX l) :=
 (CB.vO ⟨by omega,by have:=h.2.1;omega⟩).append fun c hc=>by
  obtain⟨cs,Tr,hc⟩:=List.mem_flatten.1 hc
  obtain⟨o,ho,rfl⟩:=List.mem_map.1 Tr
  exact CB.op (h.2.2 o ho) c hc
theorem CB.ep {e:aD}(h:Ah e):CB (wg e):=by
 obtain⟨h1,h2,h3⟩:=IB h
 exact (((CB.vO (dE h.1)).append (CB.ints h1)).append (CB.ints h3)).append (CB.ints h2)
theorem CB.pt {p:aK}(h:wJ p)(hb:Bg p.Data):CB (fg p):=by
 obtain⟨h1,⟨h2,h3⟩,⟨h4,h5⟩,h6⟩:=h
 exact ((CB.vO (dE h1)).append (CB.jz ⟨by omega,by omega⟩ ⟨by omega,by omega⟩)).append (fun c hc=>by simp at hc;subst hc;exact yj (by omega) hb)
theorem CB.en {e:aB}(h:KI e)(hb:Bg e.Part.Data):CB (UD e):=by
 obtain⟨hk,_,hc⟩:=h
 have jm:e.Kind=0∨e.Kind=1∨e.Kind=2∨e.Kind=3∨e.Kind=4∨e.Kind=5∨e.Kind=6∨e.Kind=7∨e.Kind=8:=by unfold Yi at hk;omega
 obtain⟨kd,a2,a3,a4,a5,a6,a7,a8,a9,eT,eK,eL,eA,eB,jA⟩:=e
 simp only at jm
 refine (CB.vO (a:=kd) ⟨by omega,by omega⟩).append ?_
 rcases jm with rfl|rfl|rfl|rfl|rfl|rfl|rfl|rfl|rfl
 ·replace hc:(decide (Jv eA)&&decide (Jv eB)&&decide (uZ jA))=true:=hc
  simp only[Bool.and_eq_true,decide_eq_true_eq]at hc
  obtain⟨⟨c1,c2⟩,c3⟩:=hc
  exact CB.nil
 ·replace hc:(decide (uZ a2)&&decide (0 < a2)&&decide (uZ a3)&&decide (0 < a3)&&decide (uN a4))=true:=hc
  simp only[Bool.and_eq_true,decide_eq_true_eq]at hc
  obtain⟨⟨⟨⟨c1,_⟩,c2⟩,_⟩,c3⟩:=hc
  exact (CB.jz (dE c1) (dE c2)).append (CB.op c3)
 ·replace hc:(decide (Jv a5)&&decide (uZ a6)&&decide (uY a7))=true:=hc
  simp only[Bool.and_eq_true,decide_eq_true_eq]at hc
  obtain⟨⟨c1,c2⟩,c3⟩:=hc
  exact ((CB.vO (vM c1)).append (CB.vO (dE c2))).append (CB.ops c3)
 ·replace hc:(decide (Ah a8))=true:=hc
  simp only[Bool.and_eq_true,decide_eq_true_eq]at hc
  have c1:=hc
  exact CB.ep c1
 ·replace hc:(decide (uZ a6)&&decide (Jv a9)&&decide (wK eT)&&decide (uZ eK))=true:=hc
  simp only[Bool.and_eq_true,decide_eq_true_eq]at hc
  obtain⟨⟨⟨c1,c2⟩,c3⟩,c4⟩:=hc
  exact (((CB.vO (dE c1)).append (CB.vO (vM c2))).append (CB.ints fun n hn=>dE (c3 n hn))).append (CB.vO (dE c4))
 ·replace hc:(decide (wJ eL))=true:=hc
  simp only[Bool.and_eq_true,decide_eq_true_eq]at hc
  have c1:=hc
  exact CB.pt c1 hb
 ·replace hc:(decide (Jv eA)&&decide (Jv eB)&&decide (uZ jA))=true:=hc
  simp only[Bool.and_eq_true,decide_eq_true_eq]at hc
  obtain⟨⟨c1,c2⟩,c3⟩:=hc
  exact CB.jz (vM c1) (vM c2)
 ·replace hc:(decide (Jv eA)&&decide (Jv eB)&&decide (uZ jA))=true:=hc
  simp only[Bool.and_eq_true,decide_eq_true_eq]at hc
  obtain⟨⟨c1,c2⟩,c3⟩:=hc
  exact CB.vO (vM c1)
 ·replace hc:(decide (Jv eA)&&decide (Jv eB)&&decide (uZ jA))=true:=hc
  simp only[Bool.and_eq_true,decide_eq_true_eq]at hc
  obtain⟨⟨c1,c2⟩,c3⟩:=hc
  exact (CB.vO (vM c1)).append (CB.vO (dE c3))
section
variable {N:Nat}
end
def Ba (a:bV):Prop:=(0≤a.cR∧a.cR < 9)∧(0≤a.aJ∧a.aJ < 5)
instance (a:bV):Decidable (Ba a):=by unfold Ba;infer_instance
def Jw (b:aT):Prop:=uZ b.Round∧(0≤b.aJ∧b.aJ < 5)
instance (b:aT):Decidable (Jw b):=by unfold Jw;infer_instance
def Uo (x:aL):Prop:=uZ x.Slot∧Jw x.aG∧KI x.Entry
section
variable {N:Nat}
theorem ky (a:bV):Ay N a=some (decide (Ba a)):=by
 unfold Ay
 refine congrArg some (RA ?_)
 unfold Ba
 simp only[Bool.and_eq_true,decide_eq_true_eq,and_assoc]
theorem PT (b:aT):Eb N b=some (decide (Jw b)):=by
 unfold Eb
 rw[lY,Option.bind_some]
 refine congrArg some (RA ?_)
 unfold Jw
 simp only[Bool.and_eq_true,decide_eq_true_eq,and_assoc]
theorem PB (hN:20≤N)(b:aT):uH N b=some (decide (Jw b)):=by
 unfold uH
 rw[Vx (by simp;omega) (by simp),Option.bind_some]
 refine congrArg some (RA ?_)
 unfold Jw
 simp only[List.all_cons,List.all_nil,Bool.and_true,Bool.and_eq_true,decide_eq_true_eq,and_assoc]
theorem ZV (hN:20≤N)(a b:bV):cV N [a,b]=some (decide (Ba a)&&decide (Ba b)):=by
 obtain⟨k,rfl⟩:∃ k,N=k+20:=⟨N - 20,by omega⟩
 have:cV (k+20) [a,b]=(bif ((((decide (a.cR < 0)) || (decide (9≤a.cR))) || (decide (a.aJ < 0))) || (decide (5≤a.aJ))) then some false else
   bif ((((decide (b.cR < 0)) || (decide (9≤b.cR))) || (decide (b.aJ < 0))) || (decide (5≤b.aJ))) then some false else some true):=by kernel_rfl
 rw[this]
 have key:∀ a:bV,((((decide (a.cR < 0)) || (decide (9≤a.cR))) || (decide (a.aJ < 0))) || (decide (5≤a.aJ)))=!decide (Ba a):=fun a=>by
  by_cases h:Ba a
  ·have h':=h
   obtain⟨⟨h1,h2⟩,h3,h4⟩:=h'
   rw[decide_eq_true h,decide_eq_false (by omega),decide_eq_false (by omega),decide_eq_false (by omega),decide_eq_false (by omega)];rfl
  ·rw[decide_eq_false h]
   unfold Ba at h
   simp only[Bool.or_eq_true,decide_eq_true_eq,Bool.not_false]
   omega
 rw[key,key]
 cases decide (Ba a)<;>cases decide (Ba b)<;>rfl
end
def slq (a b:aL):Bool:=((a.Slot==b.Slot)&&((a.aG.Round==b.aG.Round)&&(a.aG.aJ==b.aG.aJ)))&&Hh a.Entry b.Entry
theorem aC3 {a b:aL}(ha:Bg a.Entry.Part.Data)(hb:Bg b.Entry.Part.Data):slq a b=true↔a=b:=by
 obtain⟨a1,⟨a2,a3⟩,a4⟩:=a
 obtain⟨b1,⟨b2,b3⟩,b4⟩:=b
 simp only[slq,Bool.and_eq_true,beq_iff_eq,Zi (a:=a4) (b:=b4) ha hb,aL.mk.injEq,aT.mk.injEq,and_assoc]
def C0 (a b:List aL):Bool:=((a.length:Int)==(b.length:Int))&&((a.zip b).all fun p=>slq p.1 p.2)
theorem cy:∀ {a b:List aL},(∀ x∈a,Bg x.Entry.Part.Data)→(∀ x∈b,Bg x.Entry.Part.Data)→(C0 a b=true↔a=b)
 |[],[],_,_=>by simp[C0]
 |[],y :: b,_,_=>by simp[C0];omega
 |x :: a,[],_,_=>by simp[C0];omega
 |x :: a,y :: b,ha,hb=>by
  have ih:=cy (a:=a) (b:=b) (fun z hz=>ha z (by simp[hz])) (fun z hz=>hb z (by simp[hz]))
  have h1:=aC3 (ha x (by simp)) (hb y (by simp))
  unfold C0 at ih ⊢
  simp only[List.length_cons,List.zip_cons_cons,List.all_cons,Bool.and_eq_true,beq_iff_eq,List.cons.injEq]at ih ⊢
  constructor
  ·rintro⟨h,h2,h3⟩;exact⟨h1.1 h2,ih.1 ⟨by omega,h3⟩⟩
  ·rintro⟨h,h2⟩;obtain⟨h3,h4⟩:=ih.2 h2;exact⟨by omega,h1.2 h,h4⟩
section
variable {N:Nat}
def HG (N:Nat)(l:List aL):Prop:=l.length+20≤N∧l.length≤9223372036854775807∧∀ x∈l,x.Entry.fP.length+20≤N∧x.Entry.fP.length≤9223372036854775807∧Bg x.Entry.Part.Data
theorem aC1 {a b:aL}(h:a.Entry.fP.length+20≤N∧a.Entry.fP.length≤9223372036854775807∧Bg a.Entry.Part.Data):pL N a b=some (slq a b):=by
 unfold pL
 rw[CM (by omega) h.2.1]
 simp only[eJ,Option.bind_some,gX]
 rfl
theorem vd {a b:List aL}(ha:HG N a):jJ N a b=some (C0 a b):=by
 obtain⟨hN,hm,hr⟩:=ha
 unfold jJ C0
 by_cases hl:a.length=b.length
 ·simp only[hl,beq_self_eq_true,Bool.not_true,cond_false,Bool.true_and]
  refine dU (fun q:eO=>0≤q.t17∧q.t17≤(a.length:Int)∧(((a.drop q.t17.toNat).zip (b.drop q.t17.toNat)).all fun p=>slq p.1 p.2)=((a.zip b).all fun p=>slq p.1 p.2)) (fun q=>((a.length:Int) - q.t17).toNat) ?_ N _ ⟨by simp,by simp,by simp⟩ (by simp;omega)
  rintro⟨i⟩ nx ⟨g0,g1,hq⟩ ih
  simp only at g0 g1 hq ih ⊢
  by_cases hi:i < b.length
  ·have FK:i < a.length:=by omega
   have V1:=hr _ (jS (default:aL) g0 FK)
   rw[dC (default:aL) g0 hi,dC (default:aL) g0 FK,List.zip_cons_cons,List.all_cons]at hq
   simp only[decide_eq_true hi,dT g0 hi,cond_true]
   change (pL N (aE a i default) (aE b i default)).bind _=_
   rw[aC1 V1,Option.bind_some]
   cases ho:slq (aE a i default) (aE b i default) with
   |true =>
    rw[ho,Bool.true_and]at hq
    simp only[Bool.not_true,cond_false]
    rw[wrap64 (by omega) (by omega)]
    exact ih ⟨i+1⟩ ⟨by simp;omega,by simp;omega,hq⟩ (by simp;omega)
   |false=>rw[ho,Bool.false_and]at hq;rw[← hq];rfl
  ·have:decide (i < (b.length:Int))=false:=by simpa using hi
   simp only[this,cond_false]
   rw[List.drop_eq_nil_of_le (by omega)]at hq
   rw[← hq];rfl
 ·have:((a.length:Int)==(b.length:Int))=false:=by simp;omega
  simp only[this,Bool.not_false,cond_true,Bool.false_and]
theorem la {a b:aL}(h:a.Entry.fP.length+20≤N∧a.Entry.fP.length≤9223372036854775807∧Bg a.Entry.Part.Data):rS N a b=some (slq a b):=by
 unfold rS
 rw[Np (by omega) h.2.1]
 simp only[eJ,Option.bind_some,gX]
 rfl
theorem S5 {a b:List aL}(ha:HG N a):Et N a b=some (C0 a b):=by
 obtain⟨hN,hm,hr⟩:=ha
 unfold Et C0
 by_cases hl:a.length=b.length
 ·simp only[hl,beq_self_eq_true,Bool.not_true,cond_false,Bool.true_and]
  refine dU (fun q:oN=>0≤q.i∧q.i≤(a.length:Int)∧(((a.drop q.i.toNat).zip (b.drop q.i.toNat)).all fun p=>slq p.1 p.2)=((a.zip b).all fun p=>slq p.1 p.2)) (fun q=>((a.length:Int) - q.i).toNat) ?_ N _ ⟨by simp,by simp,by simp⟩ (by simp;omega)
  rintro⟨i⟩ nx ⟨g0,g1,hq⟩ ih
  simp only at g0 g1 hq ih ⊢
  by_cases hi:i < b.length
  ·have FK:i < a.length:=by omega
   have V1:=hr _ (jS (default:aL) g0 FK)
   rw[dC (default:aL) g0 hi,dC (default:aL) g0 FK,List.zip_cons_cons,List.all_cons]at hq
   simp only[decide_eq_true hi,dT g0 hi,cond_true]
   change (rS N (aE a i default) (aE b i default)).bind _=_
   rw[la V1,Option.bind_some]
   cases ho:slq (aE a i default) (aE b i default) with
   |true =>
    rw[ho,Bool.true_and]at hq
    simp only[Bool.not_true,cond_false]
    rw[wrap64 (by omega) (by omega)]
    exact ih ⟨i+1⟩ ⟨by simp;omega,by simp;omega,hq⟩ (by simp;omega)
   |false=>rw[ho,Bool.false_and]at hq;rw[← hq];rfl
  ·have:decide (i < (b.length:Int))=false:=by simpa using hi
   simp only[this,cond_false]
   rw[List.drop_eq_nil_of_le (by omega)]at hq
   rw[← hq];rfl
 ·have:((a.length:Int)==(b.length:Int))=false:=by simp;omega
  simp only[this,Bool.not_false,cond_true,Bool.false_and]
end
def adq (a b:bV):Bool:=(a.cR==b.cR)&&(a.aJ==b.aJ)
def baq (a b:aT):Bool:=(a.Round==b.Round)&&(a.aJ==b.aJ)
theorem aCa (a b:bV):adq a b=true↔a=b:=by
 obtain⟨a1,a2⟩:=a
 obtain⟨b1,b2⟩:=b
 simp only[adq,Bool.and_eq_true,beq_iff_eq,bV.mk.injEq]
theorem aCd (a b:aT):baq a b=true↔a=b:=by
 obtain⟨a1,a2⟩:=a
 obtain⟨b1,b2⟩:=b
 simp only[baq,Bool.and_eq_true,beq_iff_eq,aT.mk.injEq]
def Zj (a b:aN):Bool :=
 (((((((((((((a.Kind==b.Kind)&&adq a.aS b.aS)&&adq a.To b.To)&&baq a.aG b.aG)&&(a.Slot==b.Slot))&&C0 a.bR b.bR)&&Hh a.Entry b.Entry)&&(a.Number==b.Number))&&(rN Dd a.aH b.aH))&&(a.bH==b.bH))&&(a.Origin==b.Origin))&&bs a.fP b.fP)&&epq a.aY b.aY)&&ptq a.Part b.Part
def LF (m:aN):Prop:=(∀ x∈m.bR,Bg x.Entry.Part.Data)∧Bg m.Entry.Part.Data∧Bg m.Part.Data
def Db (N:Nat)(m:aN):Prop:=HG N m.bR∧(m.Entry.fP.length+20≤N∧m.Entry.fP.length≤9223372036854775807∧Bg m.Entry.Part.Data)∧(m.fP.length+20≤N∧m.fP.length≤9223372036854775807)∧Bg m.Part.Data
theorem Db.Bg {N:Nat}{m:aN}(h:Db N m):LF m:=⟨fun x hx=>(h.1.2.2 x hx).2.2,h.2.1.2.2,h.2.2.2⟩
theorem IM {a b:aN}(ha:LF a)(hb:LF b):Zj a b=true↔a=b:=by
 obtain⟨a1,a2,a3,a4,a5,a6,a7,a8,a9,eT,eK,eL,eA,eB⟩:=a
 obtain⟨b1,b2,b3,b4,b5,b6,b7,b8,b9,b10,b11,Ed,b13,b14⟩:=b
 obtain⟨p1,p2,p3⟩:=ha
 obtain⟨q1,q2,q3⟩:=hb
 simp only[Zj,Bool.and_eq_true,beq_iff_eq,aCa,aCd,cy (a:=a6) (b:=b6) p1 q1,Zi (a:=a7) (b:=b7) p2 q2,QO YG,bt,om,qc (a:=eB) (b:=b14) p3 q3,aN.mk.injEq,and_assoc]
section
variable {N:Nat}
theorem lf {a b:aN}(h:Db N a):yM N a b=some (Zj a b):=by
 obtain⟨h1,h2,h3,h4⟩:=h
 unfold yM wG
 rw[vd h1,CM (by omega) h2.2.1,UF (by omega) h3.2]
 simp only[eJ,Option.bind_some,gX]
 rfl
theorem B9 {a b:aN}(h:Db N a):rR N a b=some (Zj a b):=by
 obtain⟨h1,h2,h3,h4⟩:=h
 unfold rR yN
 rw[S5 h1,Np (by omega) h2.2.1,I9 (by omega) h3.2]
 simp only[eJ,Option.bind_some,gX]
 rfl
end
def pU (e:aB):Bool:=decide (0≤e.Kind∧e.Kind≤8)&&Hh e (jP e)&&Ee e
theorem Qq {e:aB}(hb:Bg e.Part.Data):pU e=true↔KI e:=by
 unfold pU KI Yi
 simp only[Bool.and_eq_true,decide_eq_true_eq,Zi hb (YL hb),and_assoc]
def Jz (x:aL):Bool:=decide (uZ x.Slot)&&decide (Jw x.aG)&&pU x.Entry
section
variable {N:Nat}
theorem TX {e:aB}(h:e.fP.length+20≤N∧e.fP.length≤9223372036854775807∧Bg e.Part.Data):cP N e=some (bif pU e then 0 else 40):=by
 rcases u7 h.1 h.2.1 h.2.2 with⟨p,q⟩|⟨p,q⟩
 ·rw[q,(Qq h.2.2).2 p];rfl
 ·have:pU e=false:=Bool.eq_false_iff.2 fun hm=>p ((Qq h.2.2).1 hm)
  rw[q,this];rfl
theorem PU {e:aB}(h:e.fP.length+20≤N∧e.fP.length≤9223372036854775807∧Bg e.Part.Data):eF N e=some (pU e):=by
 rcases l8 h.1 h.2.1 h.2.2 with⟨p,q⟩|⟨p,q⟩
 ·rw[q,(Qq h.2.2).2 p]
 ·have:pU e=false:=Bool.eq_false_iff.2 fun hm=>p ((Qq h.2.2).1 hm)
  rw[q,this]
theorem aGq (hN:20≤N){x:aL}(h:x.Entry.fP.length+20≤N∧x.Entry.fP.length≤9223372036854775807∧Bg x.Entry.Part.Data):nU N x=some (!Jz x):=by
 unfold nU Jz
 rw[Vx (by simp;omega) (by simp),PB hN,TX h]
 simp only[Option.bind_some,List.all_cons,List.all_nil,Bool.and_true]
 cases decide (uZ x.Slot)<;>cases decide (Jw x.aG)<;>cases pU x.Entry<;>rfl
theorem jy {l:List aL}(h:HG N l):iC N l=some (!(l.all Jz)):=by
 obtain⟨hN,hm,hr⟩:=h
 unfold iC
 have key:∃ r,jK N l=some r∧decide (0≤r)=!(l.all Jz):=by
  unfold jK
  refine rM (fun q:eP=>0≤q.t8∧q.t8≤(l.length:Int)∧((l.drop q.t8.toNat).all Jz)=l.all Jz) (fun q=>((l.length:Int) - q.t8).toNat) _ ?_ N _ ⟨by simp,by simp,by simp⟩ (by simp;omega)
  rintro⟨i⟩ nx ⟨g0,g1,hq⟩ ih
  simp only at g0 g1 hq ih ⊢
  by_cases hi:i < l.length
  ·have V1:=hr _ (jS (default:aL) g0 hi)
   rw[dC (default:aL) g0 hi,List.all_cons]at hq
   simp only[decide_eq_true hi,dT g0 hi,cond_true]
   change ∃ r,(nU N (aE l i default)).bind _=some r∧_
   rw[aGq (by omega) V1,Option.bind_some]
   cases ho:Jz (aE l i default) with
   |true =>
    rw[ho,Bool.true_and]at hq
    simp only[Bool.not_true,cond_false]
    rw[wrap64 (by omega) (by omega)]
    exact ih ⟨i+1⟩ ⟨by simp;omega,by simp;omega,hq⟩ (by simp;omega)
   |false =>
    rw[ho,Bool.false_and]at hq
    exact⟨i,rfl,by rw[← hq];simpa using g0⟩
  ·have:decide (i < (l.length:Int))=false:=by simpa using hi
   simp only[this,cond_false]
   rw[List.drop_eq_nil_of_le (by omega)]at hq
   exact⟨-1,rfl,by rw[← hq];rfl⟩
 obtain⟨r,h1,h2⟩:=key
 rw[h1,Option.bind_some,h2]
end
theorem aFI (e:aB):(⟨e.Kind,e.cE,e.Request,(⟨e.Op.cG,e.Op.Kind,e.Op.Node,e.Op.cY,e.Op.Name,e.Op.Key,e.Op.Value⟩:dP),e.Origin,e.Seq,e.fP,e.aY,e.aS,e.aH,e.bH,e.Part,e.Site,e.aV,e.Length⟩:aB)=e:=rfl
def uA (l:List aL)(a b:Int):Bool:=(decide (a≤(l.length:Int))&&decide ((l.length:Int)≤b))&&l.all Jz
section
variable {N:Nat}
theorem A1 {l:List aL}(h:HG N l)(a b:Int):rP N l a b=some (uA l a b):=by
 unfold rP uA
 rw[jy h]
 simp only[eJ,Option.bind_some]
 cases decide (a≤(l.length:Int))<;>cases decide ((l.length:Int)≤b)<;>cases l.all Jz<;>rfl
theorem kz {l:List aL}(h:HG N l)(a b:Int):Gm N l a b=some (uA l a b):=by
 obtain⟨hN,hm,hr⟩:=h
 unfold Gm
 refine dU (fun q:zB=>0≤q.i∧q.i≤(l.length:Int)∧((l.drop q.i.toNat).all Jz)=l.all Jz) (fun q=>((l.length:Int) - q.i).toNat) ?_ N _ ⟨by simp,by simp,by simp⟩ (by simp;omega)
 rintro⟨i⟩ nx ⟨g0,g1,hq⟩ ih
 simp only at g0 g1 hq ih ⊢
 by_cases hi:i < l.length
 ·have V1:=hr _ (jS (default:aL) g0 hi)
  rw[dC (default:aL) g0 hi,List.all_cons]at hq
  have he:eF N (aE l i default).Entry=some (pU (aE l i default).Entry):=PU V1
  simp only[decide_eq_true hi,dT g0 hi,cond_true,Bool.or_true,lY,PT,Option.bind_some,eJ,aFI,he]
  have hms:((!decide (uZ (aE l i default).Slot) || !(bif !!decide (uZ (aE l i default).Slot) then decide (Jw (aE l i default).aG) else default)) || !(bif !((!decide (uZ (aE l i default).Slot)) || !(bif !!decide (uZ (aE l i default).Slot) then decide (Jw (aE l i default).aG) else default)) then pU (aE l i default).Entry else default))=!Jz (aE l i default):=by
   unfold Jz
   cases decide (uZ (aE l i default).Slot)<;>cases decide (Jw (aE l i default).aG)<;>cases pU (aE l i default).Entry<;>rfl
  rw[hms]
  cases ho:Jz (aE l i default) with
  |true =>
   rw[ho,Bool.true_and]at hq
   simp only[Bool.not_true,cond_false]
   rw[wrap64 (by omega) (by omega)]
   exact ih ⟨i+1⟩ ⟨by simp;omega,by simp;omega,hq⟩ (by simp;omega)
  |false =>
   rw[ho,Bool.false_and]at hq
   unfold uA
   rw[← hq];simp
 ·have:decide (i < (l.length:Int))=false:=by simpa using hi
  simp only[this,cond_false]
  rw[List.drop_eq_nil_of_le (by omega)]at hq
  unfold uA
  rw[← hq];simp
end
def HT:aT:=⟨0,0⟩
def uG:aB:=⟨0,0,0,eh,0,0,[],Dx,0,zV,0,Dy,0,0,0⟩
def vL (m:aN):aN :=
 bif m.Kind==1 then ⟨m.Kind,m.aS,m.To,m.aG,m.Slot,[],uG,0,zV,0,0,[],Dx,Dy⟩ else
 bif m.Kind==2 then ⟨m.Kind,m.aS,m.To,m.aG,m.Slot,m.bR,uG,0,zV,0,0,[],Dx,Dy⟩ else
 bif m.Kind==3 then ⟨m.Kind,m.aS,m.To,m.aG,0,m.bR,uG,0,zV,0,0,[],Dx,Dy⟩ else
 bif m.Kind==4 then ⟨m.Kind,m.aS,m.To,m.aG,m.Slot,[],uG,0,zV,0,0,[],Dx,Dy⟩ else
 bif m.Kind==5 then ⟨m.Kind,m.aS,m.To,m.aG,0,[],uG,0,zV,0,0,[],Dx,Dy⟩ else
 bif m.Kind==6 then ⟨m.Kind,m.aS,m.To,HT,0,m.bR,uG,0,zV,0,0,[],Dx,Dy⟩ else
 bif m.Kind==7 then ⟨m.Kind,m.aS,m.To,m.aG,m.Slot,[],uG,0,zV,0,0,[],Dx,Dy⟩ else
 bif m.Kind==8 then ⟨m.Kind,m.aS,m.To,HT,m.Slot,[],uG,0,zV,0,0,[],Dx,Dy⟩ else
 bif m.Kind==9 then ⟨m.Kind,m.aS,m.To,HT,0,[],m.Entry,0,zV,0,0,[],Dx,Dy⟩ else
 bif m.Kind==10 then ⟨m.Kind,m.aS,m.To,HT,0,[],uG,m.Number,m.aH,m.bH,0,[],Dx,Dy⟩ else
 bif m.Kind==11 then ⟨m.Kind,m.aS,m.To,HT,m.Slot,[],uG,m.Number,zV,0,m.Origin,m.fP,Dx,Dy⟩ else
 bif m.Kind==12 then ⟨m.Kind,m.aS,m.To,HT,0,[],uG,0,zV,0,0,[],m.aY,Dy⟩ else
 bif m.Kind==13 then ⟨m.Kind,m.aS,m.To,HT,0,[],uG,0,zV,0,0,[],Dx,m.Part⟩ else
 bif m.Kind==14 then ⟨m.Kind,m.aS,m.To,HT,0,[],uG,m.Number,m.aH,0,0,[],Dx,Dy⟩ else
 bif m.Kind==15 then ⟨m.Kind,m.aS,m.To,HT,m.Slot,[],uG,0,zV,0,0,[],Dx,m.Part⟩ else
 ⟨m.Kind,m.aS,m.To,HT,0,[],uG,0,zV,0,0,[],Dx,Dy⟩
def V8 (m:aN):Bool :=
 bif m.Kind==3 then ((m.bR.length:Int)==1) else
 bif m.Kind==6 then decide (1≤(m.bR.length:Int)) else
 bif m.Kind==11 then decide (Jv m.Origin)&&decide (uY m.fP) else
 bif m.Kind==12 then decide (Ah m.aY) else
 bif m.Kind==13 then decide (wJ m.Part) else
 bif m.Kind==15 then decide (wJ m.Part) else true
def sp2 (m:aN):Bool :=
 bif m.Kind==2 then uA m.bR 0 4096 else
 bif m.Kind==3 then uA m.bR 1 1 else
 bif m.Kind==6 then uA m.bR 1 4096 else
 bif m.Kind==9 then pU m.Entry else
 bif m.Kind==11 then decide (Jv m.Origin)&&decide (uY m.fP) else
 bif m.Kind==12 then decide (Ah m.aY) else
 bif m.Kind==13 then decide (wJ m.Part) else
 bif m.Kind==15 then decide (wJ m.Part) else true
def Oe (m:aN):Prop:=1≤m.Kind∧m.Kind≤15
instance (m:aN):Decidable (Oe m):=by unfold Oe;infer_instance
def uo (b:aN):Bool:=decide (Jw b.aG)&&(decide (uZ b.Slot)&&decide (uZ b.Number)&&decide (uZ b.bH))&&decide (wK b.aH)
def FZ (m:aN):Bool:=decide (Oe m)&&Zj m (vL m)&&(decide (Ba m.aS)&&decide (Ba m.To))&&uo m&&sp2 m
theorem RR {m:aN}(h:Oe m):m.Kind=1∨m.Kind=2∨m.Kind=3∨m.Kind=4∨m.Kind=5∨m.Kind=6∨m.Kind=7∨m.Kind=8∨m.Kind=9∨m.Kind=10∨m.Kind=11∨m.Kind=12∨m.Kind=13∨m.Kind=14∨m.Kind=15:=by unfold Oe at h;omega
theorem Aq:pU uG=true:=by kernel_rfl
section
variable {N:Nat}
theorem sd (hN:20≤N){o:Bool}{m x b:aN}(hb:Db N b):wI N x ⟨o,m,b⟩=some (bif (((o&&uo b)&&uA b.bR 0 4096)&&pU b.Entry)&&Zj b m then 0 else 40):=by
 have h3:cK N [b.Slot,b.Number,b.bH]=some (decide (uZ b.Slot)&&decide (uZ b.Number)&&decide (uZ b.bH)):=by
  rw[Vx (by simp;omega) (by simp)];simp[Bool.and_assoc]
 have h8:cK N b.aH.toList=some (decide (wK b.aH)):=by
  rw[Vx (by simp;omega) (by simp),MH]
 unfold wI uo
 simp only[PB hN,h3,h8,A1 hb.1,TX hb.2.1,lf hb,eJ,Option.bind_some,gX]
 generalize decide (Jw b.aG)=p1
 generalize (decide (uZ b.Slot)&&decide (uZ b.Number)&&decide (uZ b.bH))=p2
 generalize decide (wK b.aH)=p3
 generalize uA b.bR 0 4096=p4
 generalize pU b.Entry=p5
 generalize Zj b m=p6
 cases o<;>cases p1<;>cases p2<;>cases p3<;>cases p4<;>cases p5<;>cases p6<;>rfl
theorem l9 {m:aN}(h:Db N m)(hN:20≤N):Db N (vL m):=by
 obtain⟨h1,h2,h3,h4⟩:=h
 have r1:HG N ([]:List aL):=⟨by simp;omega,by simp,fun x hx=>by cases hx⟩
 have r2:uG.fP.length+20≤N∧uG.fP.length≤9223372036854775807∧Bg uG.Part.Data:=⟨by simpa[uG] using hN,by simp[uG],fun x hx=>by cases hx⟩
 have r3:([]:List dP).length+20≤N∧([]:List dP).length≤9223372036854775807:=⟨by simpa using hN,by simp⟩
 have r4:Bg Dy.Data:=fun x hx=>by cases hx
 unfold vL
 repeat' (refine (show ∀ (c:Bool) (x y:aN),Db N x→Db N y→Db N (bif c then x else y) from fun c x y hx hy=>by cases c<;>assumption) _ _ _ ?_ ?_)
 all_goals exact⟨by first|exact h1|exact r1,by first|exact h2|exact r2,by first|exact h3|exact r3,by first|exact h4|exact r4⟩
theorem sc (hN:20≤N){m:aN}(hk:Oe m)(Oz:m.fP.length+20≤N)(hl:m.fP.length≤9223372036854775807):cI N m=some (.inl ⟨(decide (Ba m.aS)&&decide (Ba m.To))&&V8 m,m,vL m⟩):=by
 have ha:=fun a b=>ZV hN a b
 have UL:=fun a=>aBu (N:=N) (l:=[a]) (by simp;omega) (by simp)
 have O1:=H4 (N:=N) (l:=m.fP) (by omega) hl
 have w5:=fun x=>UX (N:=N) (by omega) x
 have y8:=fun x=>ZW (N:=N) (by omega) x
 have jR:=RR hk
 obtain⟨kd,a2,a3,a4,a5,a6,a7,a8,a9,eT,eK,eL,eA,eB⟩:=m
 simp only at jR O1
 rcases jR with rfl|rfl|rfl|rfl|rfl|rfl|rfl|rfl|rfl|rfl|rfl|rfl|rfl|rfl|rfl
 ·have hz:cI N (⟨1,a2,a3,a4,a5,a6,a7,a8,a9,eT,eK,eL,eA,eB⟩:aN)=((cV N [a2,a3]).bind fun r1=>some (.inl ⟨r1,(⟨1,a2,a3,a4,a5,a6,a7,a8,a9,eT,eK,eL,eA,eB⟩:aN),vL (⟨1,a2,a3,a4,a5,a6,a7,a8,a9,eT,eK,eL,eA,eB⟩:aN)⟩)):=rfl
  rw[hz,ha,Option.bind_some]
  rw[show V8 (⟨1,a2,a3,a4,a5,a6,a7,a8,a9,eT,eK,eL,eA,eB⟩:aN)=true from rfl]
  rw[Bool.and_true]
 ·have hz:cI N (⟨2,a2,a3,a4,a5,a6,a7,a8,a9,eT,eK,eL,eA,eB⟩:aN)=((cV N [a2,a3]).bind fun r1=>some (.inl ⟨r1,(⟨2,a2,a3,a4,a5,a6,a7,a8,a9,eT,eK,eL,eA,eB⟩:aN),vL (⟨2,a2,a3,a4,a5,a6,a7,a8,a9,eT,eK,eL,eA,eB⟩:aN)⟩)):=rfl
  rw[hz,ha,Option.bind_some]
  rw[show V8 (⟨2,a2,a3,a4,a5,a6,a7,a8,a9,eT,eK,eL,eA,eB⟩:aN)=true from rfl]
  rw[Bool.and_true]
 ·have hz:cI N (⟨3,a2,a3,a4,a5,a6,a7,a8,a9,eT,eK,eL,eA,eB⟩:aN)=((cV N [a2,a3]).bind fun r1=>some (.inl ⟨(r1&&((a6.length:Int)==1)),(⟨3,a2,a3,a4,a5,a6,a7,a8,a9,eT,eK,eL,eA,eB⟩:aN),vL (⟨3,a2,a3,a4,a5,a6,a7,a8,a9,eT,eK,eL,eA,eB⟩:aN)⟩)):=rfl
  rw[hz,ha,Option.bind_some]
  rw[show V8 (⟨3,a2,a3,a4,a5,a6,a7,a8,a9,eT,eK,eL,eA,eB⟩:aN)=((a6.length:Int)==1) from rfl]
 ·have hz:cI N (⟨4,a2,a3,a4,a5,a6,a7,a8,a9,eT,eK,eL,eA,eB⟩:aN)=((cV N [a2,a3]).bind fun r1=>some (.inl ⟨r1,(⟨4,a2,a3,a4,a5,a6,a7,a8,a9,eT,eK,eL,eA,eB⟩:aN),vL (⟨4,a2,a3,a4,a5,a6,a7,a8,a9,eT,eK,eL,eA,eB⟩:aN)⟩)):=rfl
  rw[hz,ha,Option.bind_some]
  rw[show V8 (⟨4,a2,a3,a4,a5,a6,a7,a8,a9,eT,eK,eL,eA,eB⟩:aN)=true from rfl]
  rw[Bool.and_true]
 ·have hz:cI N (⟨5,a2,a3,a4,a5,a6,a7,a8,a9,eT,eK,eL,eA,eB⟩:aN)=((cV N [a2,a3]).bind fun r1=>some (.inl ⟨r1,(⟨5,a2,a3,a4,a5,a6,a7,a8,a9,eT,eK,eL,eA,eB⟩:aN),vL (⟨5,a2,a3,a4,a5,a6,a7,a8,a9,eT,eK,eL,eA,eB⟩:aN)⟩)):=rfl
  rw[hz,ha,Option.bind_some]
  rw[show V8 (⟨5,a2,a3,a4,a5,a6,a7,a8,a9,eT,eK,eL,eA,eB⟩:aN)=true from rfl]
  rw[Bool.and_true]
 ·have hz:cI N (⟨6,a2,a3,a4,a5,a6,a7,a8,a9,eT,eK,eL,eA,eB⟩:aN)=((cV N [a2,a3]).bind fun r1=>some (.inl ⟨(r1&&(decide (1≤(a6.length:Int)))),(⟨6,a2,a3,a4,a5,a6,a7,a8,a9,eT,eK,eL,eA,eB⟩:aN),vL (⟨6,a2,a3,a4,a5,a6,a7,a8,a9,eT,eK,eL,eA,eB⟩:aN)⟩)):=rfl
  rw[hz,ha,Option.bind_some]
  rw[show V8 (⟨6,a2,a3,a4,a5,a6,a7,a8,a9,eT,eK,eL,eA,eB⟩:aN)=decide (1≤(a6.length:Int)) from rfl]
 ·have hz:cI N (⟨7,a2,a3,a4,a5,a6,a7,a8,a9,eT,eK,eL,eA,eB⟩:aN)=((cV N [a2,a3]).bind fun r1=>some (.inl ⟨r1,(⟨7,a2,a3,a4,a5,a6,a7,a8,a9,eT,eK,eL,eA,eB⟩:aN),vL (⟨7,a2,a3,a4,a5,a6,a7,a8,a9,eT,eK,eL,eA,eB⟩:aN)⟩)):=rfl
  rw[hz,ha,Option.bind_some]
  rw[show V8 (⟨7,a2,a3,a4,a5,a6,a7,a8,a9,eT,eK,eL,eA,eB⟩:aN)=true from rfl]
  rw[Bool.and_true]
 ·have hz:cI N (⟨8,a2,a3,a4,a5,a6,a7,a8,a9,eT,eK,eL,eA,eB⟩:aN)=((cV N [a2,a3]).bind fun r1=>some (.inl ⟨r1,(⟨8,a2,a3,a4,a5,a6,a7,a8,a9,eT,eK,eL,eA,eB⟩:aN),vL (⟨8,a2,a3,a4,a5,a6,a7,a8,a9,eT,eK,eL,eA,eB⟩:aN)⟩)):=rfl
  rw[hz,ha,Option.bind_some]
  rw[show V8 (⟨8,a2,a3,a4,a5,a6,a7,a8,a9,eT,eK,eL,eA,eB⟩:aN)=true from rfl]
  rw[Bool.and_true]
 ·have hz:cI N (⟨9,a2,a3,a4,a5,a6,a7,a8,a9,eT,eK,eL,eA,eB⟩:aN)=((cV N [a2,a3]).bind fun r1=>some (.inl ⟨r1,(⟨9,a2,a3,a4,a5,a6,a7,a8,a9,eT,eK,eL,eA,eB⟩:aN),vL (⟨9,a2,a3,a4,a5,a6,a7,a8,a9,eT,eK,eL,eA,eB⟩:aN)⟩)):=rfl
  rw[hz,ha,Option.bind_some]
  rw[show V8 (⟨9,a2,a3,a4,a5,a6,a7,a8,a9,eT,eK,eL,eA,eB⟩:aN)=true from rfl]
  rw[Bool.and_true]
 ·have hz:cI N (⟨10,a2,a3,a4,a5,a6,a7,a8,a9,eT,eK,eL,eA,eB⟩:aN)=((cV N [a2,a3]).bind fun r1=>some (.inl ⟨r1,(⟨10,a2,a3,a4,a5,a6,a7,a8,a9,eT,eK,eL,eA,eB⟩:aN),vL (⟨10,a2,a3,a4,a5,a6,a7,a8,a9,eT,eK,eL,eA,eB⟩:aN)⟩)):=rfl
  rw[hz,ha,Option.bind_some]
  rw[show V8 (⟨10,a2,a3,a4,a5,a6,a7,a8,a9,eT,eK,eL,eA,eB⟩:aN)=true from rfl]
  rw[Bool.and_true]
 ·have hz:cI N (⟨11,a2,a3,a4,a5,a6,a7,a8,a9,eT,eK,eL,eA,eB⟩:aN)=((cV N [a2,a3]).bind fun r1=>((bif r1 then eI N [eK] else some default).bind fun r2=>((bif (r1&&r2) then kW N eL 1 else some default).bind fun r3=>some (.inl ⟨((r1&&r2)&&r3),(⟨11,a2,a3,a4,a5,a6,a7,a8,a9,eT,eK,eL,eA,eB⟩:aN),vL (⟨11,a2,a3,a4,a5,a6,a7,a8,a9,eT,eK,eL,eA,eB⟩:aN)⟩)))):=rfl
  rw[hz,ha,Option.bind_some]
  rw[show V8 (⟨11,a2,a3,a4,a5,a6,a7,a8,a9,eT,eK,eL,eA,eB⟩:aN)=(decide (Jv eK)&&decide (uY eL)) from rfl]
  simp only[UL,O1,w5,y8,eJ,Option.bind_some,gX,List.all_cons,List.all_nil,Bool.and_true]
  rw[Bool.and_assoc]
 ·have hz:cI N (⟨12,a2,a3,a4,a5,a6,a7,a8,a9,eT,eK,eL,eA,eB⟩:aN)=((cV N [a2,a3]).bind fun r1=>((bif r1 then iW N eA else some default).bind fun r4=>some (.inl ⟨(r1&&r4),(⟨12,a2,a3,a4,a5,a6,a7,a8,a9,eT,eK,eL,eA,eB⟩:aN),vL (⟨12,a2,a3,a4,a5,a6,a7,a8,a9,eT,eK,eL,eA,eB⟩:aN)⟩))):=rfl
  rw[hz,ha,Option.bind_some]
  rw[show V8 (⟨12,a2,a3,a4,a5,a6,a7,a8,a9,eT,eK,eL,eA,eB⟩:aN)=decide (Ah eA) from rfl]
  simp only[UL,O1,w5,y8,eJ,Option.bind_some,gX,List.all_cons,List.all_nil,Bool.and_true]
 ·have hz:cI N (⟨13,a2,a3,a4,a5,a6,a7,a8,a9,eT,eK,eL,eA,eB⟩:aN)=((cV N [a2,a3]).bind fun r1=>((bif r1 then fE N eB else some default).bind fun r5=>some (.inl ⟨(r1&&r5),(⟨13,a2,a3,a4,a5,a6,a7,a8,a9,eT,eK,eL,eA,eB⟩:aN),vL (⟨13,a2,a3,a4,a5,a6,a7,a8,a9,eT,eK,eL,eA,eB⟩:aN)⟩))):=rfl
  rw[hz,ha,Option.bind_some]
  rw[show V8 (⟨13,a2,a3,a4,a5,a6,a7,a8,a9,eT,eK,eL,eA,eB⟩:aN)=decide (wJ eB) from rfl]
  simp only[UL,O1,w5,y8,eJ,Option.bind_some,gX,List.all_cons,List.all_nil,Bool.and_true]
 ·have hz:cI N (⟨14,a2,a3,a4,a5,a6,a7,a8,a9,eT,eK,eL,eA,eB⟩:aN)=((cV N [a2,a3]).bind fun r1=>some (.inl ⟨r1,(⟨14,a2,a3,a4,a5,a6,a7,a8,a9,eT,eK,eL,eA,eB⟩:aN),vL (⟨14,a2,a3,a4,a5,a6,a7,a8,a9,eT,eK,eL,eA,eB⟩:aN)⟩)):=rfl
  rw[hz,ha,Option.bind_some]
  rw[show V8 (⟨14,a2,a3,a4,a5,a6,a7,a8,a9,eT,eK,eL,eA,eB⟩:aN)=true from rfl]
  rw[Bool.and_true]
 ·have hz:cI N (⟨15,a2,a3,a4,a5,a6,a7,a8,a9,eT,eK,eL,eA,eB⟩:aN)=((cV N [a2,a3]).bind fun r1=>((bif r1 then fE N eB else some default).bind fun r5=>some (.inl ⟨(r1&&r5),(⟨15,a2,a3,a4,a5,a6,a7,a8,a9,eT,eK,eL,eA,eB⟩:aN),vL (⟨15,a2,a3,a4,a5,a6,a7,a8,a9,eT,eK,eL,eA,eB⟩:aN)⟩))):=rfl
  rw[hz,ha,Option.bind_some]
  rw[show V8 (⟨15,a2,a3,a4,a5,a6,a7,a8,a9,eT,eK,eL,eA,eB⟩:aN)=decide (wJ eB) from rfl]
  simp only[UL,O1,w5,y8,eJ,Option.bind_some,gX,List.all_cons,List.all_nil,Bool.and_true]
theorem gi (hN:20≤N){m:aN}(hk:¬ Oe m):∃ b,cI N m=some (.inl ⟨false,m,b⟩):=by
 have dF:∀ k:Int,1≤k→k≤15→(m.Kind==k)=false:=fun k h0 h8=>by
  refine beq_eq_false_iff_ne.2 fun h=>hk ?_
  unfold Oe;omega
 unfold cI
 rw[ZV hN,Option.bind_some,dF 1 (by decide) (by decide),dF 2 (by decide) (by decide),dF 3 (by decide) (by decide),dF 4 (by decide) (by decide),dF 5 (by decide) (by decide),dF 6 (by decide) (by decide),dF 7 (by decide) (by decide),dF 8 (by decide) (by decide),dF 9 (by decide) (by decide),dF 10 (by decide) (by decide),dF 11 (by decide) (by decide),dF 12 (by decide) (by decide),dF 13 (by decide) (by decide),dF 14 (by decide) (by decide),dF 15 (by decide) (by decide)]
 exact⟨_,rfl⟩
theorem aJx {m:aN}(hk:Oe m)(h:m=vL m):((V8 m&&uA m.bR 0 4096)&&pU m.Entry)=sp2 m:=by
 have hL:=congrArg aN.bR h
 have hE:=congrArg aN.Entry h
 have jR:=RR hk
 obtain⟨kd,a2,a3,a4,a5,a6,a7,a8,a9,eT,eK,eL,eA,eB⟩:=m
 simp only at jR
 rcases jR with rfl|rfl|rfl|rfl|rfl|rfl|rfl|rfl|rfl|rfl|rfl|rfl|rfl|rfl|rfl
 ·replace hL:a6=[]:=hL
  replace hE:a7=uG:=hE
  rw[hE,hL]
  show ((true&&true)&&pU uG)=true
  rw[Aq,Bool.and_true,Bool.and_true]
 ·replace hL:a6=a6:=hL
  replace hE:a7=uG:=hE
  rw[hE]
  show ((true&&uA a6 0 4096)&&pU uG)=uA a6 0 4096
  rw[Aq,Bool.and_true]
  rfl
 ·replace hL:a6=a6:=hL
  replace hE:a7=uG:=hE
  rw[hE]
  show ((((a6.length:Int)==1)&&uA a6 0 4096)&&pU uG)=uA a6 1 1
  rw[Aq,Bool.and_true]
  unfold uA
  cases a6.all Jz with
  |false=>simp
  |true=>rw[Bool.eq_iff_iff];simp<;>omega
 ·replace hL:a6=[]:=hL
  replace hE:a7=uG:=hE
  rw[hE,hL]
  show ((true&&true)&&pU uG)=true
  rw[Aq,Bool.and_true,Bool.and_true]
 ·replace hL:a6=[]:=hL
  replace hE:a7=uG:=hE
  rw[hE,hL]
  show ((true&&true)&&pU uG)=true
  rw[Aq,Bool.and_true,Bool.and_true]
 ·replace hL:a6=a6:=hL
  replace hE:a7=uG:=hE
  rw[hE]
  show ((decide (1≤(a6.length:Int))&&uA a6 0 4096)&&pU uG)=uA a6 1 4096
  rw[Aq,Bool.and_true]
  unfold uA
  cases a6.all Jz with
  |false=>simp
  |true=>rw[Bool.eq_iff_iff];simp<;>omega
 ·replace hL:a6=[]:=hL
  replace hE:a7=uG:=hE
  rw[hE,hL]
  show ((true&&true)&&pU uG)=true
  rw[Aq,Bool.and_true,Bool.and_true]
 ·replace hL:a6=[]:=hL
  replace hE:a7=uG:=hE
  rw[hE,hL]
  show ((true&&true)&&pU uG)=true
  rw[Aq,Bool.and_true,Bool.and_true]
 ·replace hL:a6=[]:=hL
  replace hE:a7=a7:=hE
  subst hL
  show ((true&&true)&&pU a7)=pU a7
  rfl
 ·replace hL:a6=[]:=hL
  replace hE:a7=uG:=hE
  rw[hE,hL]
  show ((true&&true)&&pU uG)=true
  rw[Aq,Bool.and_true,Bool.and_true]
 ·replace hL:a6=[]:=hL
  replace hE:a7=uG:=hE
  rw[hE,hL]
  show (((decide (Jv eK)&&decide (uY eL))&&true)&&pU uG)=(decide (Jv eK)&&decide (uY eL))
  rw[Aq,Bool.and_true,Bool.and_true]
 ·replace hL:a6=[]:=hL
  replace hE:a7=uG:=hE
  rw[hE,hL]
  show ((decide (Ah eA)&&true)&&pU uG)=decide (Ah eA)
  rw[Aq,Bool.and_true,Bool.and_true]
 ·replace hL:a6=[]:=hL
  replace hE:a7=uG:=hE
  rw[hE,hL]
  show ((decide (wJ eB)&&true)&&pU uG)=decide (wJ eB)
  rw[Aq,Bool.and_true,Bool.and_true]
 ·replace hL:a6=[]:=hL
  replace hE:a7=uG:=hE
  rw[hE,hL]
  show ((true&&true)&&pU uG)=true
  rw[Aq,Bool.and_true,Bool.and_true]
 ·replace hL:a6=[]:=hL
  replace hE:a7=uG:=hE
  rw[hE,hL]
  show ((decide (wJ eB)&&true)&&pU uG)=decide (wJ eB)
  rw[Aq,Bool.and_true,Bool.and_true]
theorem ld {a b:aN}(ha:LF a)(hb:LF b):Zj a b=Zj b a:=by
 rw[Bool.eq_iff_iff,IM ha hb,IM hb ha];exact eq_comm
theorem TY (hN:20≤N){m:aN}(h:Db N m):vW N m=some (bif FZ m then 0 else 40):=by
 unfold vW
 by_cases hk:Oe m
 ·have hr:=l9 h hN
  rw[sc hN hk h.2.2.1.1 h.2.2.1.2,Option.bind_some]
  show wI N m _=_
  rw[sd hN hr]
  unfold FZ
  rw[decide_eq_true hk,ld (b:=vL m) h.Bg hr.Bg]
  cases hs:Zj (vL m) m with
  |false=>simp
  |true =>
   have he:m=vL m:=((IM hr.Bg h.Bg).1 hs).symm
   rw[← he,← aJx hk he]
   generalize (decide (Ba m.aS)&&decide (Ba m.To))=p1
   generalize V8 m=p2
   generalize uo m=p3
   generalize uA m.bR 0 4096=p4
   generalize pU m.Entry=p5
   cases p1<;>cases p2<;>cases p3<;>cases p4<;>cases p5<;>rfl
 ·obtain⟨b,hb⟩:=gi hN hk
  rw[hb,Option.bind_some]
  unfold FZ
  rw[decide_eq_false hk]
  rfl
theorem aA8 {m:aN}(hk:Oe m):Hp N m=some (vL m,true):=by
 have jR:=RR hk
 obtain⟨kd,a2,a3,a4,a5,a6,a7,a8,a9,eT,eK,eL,eA,eB⟩:=m
 simp only at jR
 rcases jR with rfl|rfl|rfl|rfl|rfl|rfl|rfl|rfl|rfl|rfl|rfl|rfl|rfl|rfl|rfl<;>rfl
theorem uu {m:aN}(hk:¬ Oe m):∃ b,Hp N m=some (b,false):=by
 have dF:∀ k:Int,1≤k→k≤15→(m.Kind==k)=false:=fun k h0 h8=>by
  refine beq_eq_false_iff_ne.2 fun h=>hk ?_
  unfold Oe;omega
 unfold Hp
 rw[dF 1 (by decide) (by decide),dF 2 (by decide) (by decide),dF 3 (by decide) (by decide),dF 4 (by decide) (by decide),dF 5 (by decide) (by decide),dF 6 (by decide) (by decide),dF 7 (by decide) (by decide),dF 8 (by decide) (by decide),dF 9 (by decide) (by decide),dF 10 (by decide) (by decide),dF 11 (by decide) (by decide),dF 12 (by decide) (by decide),dF 13 (by decide) (by decide),dF 14 (by decide) (by decide),dF 15 (by decide) (by decide)]
 exact⟨_,rfl⟩
theorem S4 (hN:20≤N){m:aN}(h:Db N m):Ea N m=some (FZ m):=by
 by_cases hk:Oe m
 ·have hr:=l9 h hN
  unfold Ea
  rw[aA8 hk,Option.bind_some]
  simp only[B9 h,ky,Bool.not_true,Bool.not_false,Bool.false_or,cond_true,Option.bind_some,eJ]
  unfold FZ
  rw[decide_eq_true hk,Bool.true_and]
  cases hs:Zj m (vL m) with
  |false=>rfl
  |true =>
   cases h1:decide (Ba m.aS) with
   |false=>rfl
   |true =>
    cases h2:decide (Ba m.To) with
    |false=>rfl
    |true =>
     simp only[Bool.not_true,Bool.not_false,Bool.or_false,cond_true,cond_false,Bool.true_and,Bool.and_true]
     simp only[PT,lY,CI (N:=N) (by omega),kz h.1,PU h.2.1,vI,J0 (N:=N) (l:=m.fP) (by have:=h.2.2.1.1;omega) h.2.2.1.2,HE (N:=N) (by omega),KV,Option.bind_some,eJ,gX]
     unfold uo sp2
     generalize decide (Jw m.aG)=p1
     generalize decide (uZ m.Slot)=p2
     generalize decide (uZ m.Number)=p3
     generalize decide (uZ m.bH)=p4
     generalize decide (wK m.aH)=p5
     cases p1<;>cases p2<;>cases p3<;>cases p4<;>cases p5<;>first|rfl|skip
     simp only[Bool.not_true,Bool.not_false,Bool.or_false,cond_true,cond_false,Bool.true_and,Bool.and_true]
     cases (m.Kind==2)<;>cases (m.Kind==3)<;>cases (m.Kind==6)<;>cases (m.Kind==9)<;>cases (m.Kind==11)<;>cases (m.Kind==12)<;>cases (m.Kind==13)<;>cases (m.Kind==15)<;>rfl
 ·obtain⟨b,hb⟩:=uu (N:=N) hk
  unfold Ea FZ
  rw[hb,decide_eq_false hk]
  rfl
end
def qq (m:aN):Nat:=m.bR.length+(m.bR.map fun x=>x.Entry.fP.length).sum+m.Entry.fP.length+m.fP.length
theorem m5 {N:Nat}{e:aB}(h:aDs e)(hN:e.fP.length+60≤N):e.fP.length+20≤N∧e.fP.length≤9223372036854775807∧Bg e.Part.Data:=by
 obtain⟨_,_,_,_,_,_,h7,_,_,_,_,v9,_⟩:=h
 exact⟨by omega,h7.1,v9.2.2.2.1.2⟩
theorem pn {α:Type}(f:α→Nat):∀ {l:List α} {x:α},x∈l→f x≤(l.map f).sum
 |y :: l,x,h=>by
  rcases List.mem_cons.1 h with rfl|h
  ·simp
  ·have:=pn f h;simp only[List.map_cons,List.sum_cons];omega
theorem aBm {N:Nat}{m:aN}(h:aHG m)(hN:qq m+60≤N):Db N m:=by
 obtain⟨_,_,_,_,_,h6,h7,_,_,_,_,v9,_,h14,_⟩:=h
 unfold qq at hN
 refine⟨⟨by omega,h6.1,fun x hx=>m5 (h6.2 x hx).2.2.1 ?_⟩,m5 h7 (by omega),⟨by omega,v9.1⟩,h14.2.2.2.1.2⟩
 have:=pn (fun x:aL=>x.Entry.fP.length) hx
 omega
end Go.Proofs.YtddpmkmgbdedlaaGreat
