/-
Plain laws of another seat,turned to this one by wip/tools/ren2.py.
-/
import Derived.Test.YtddpmkmgbdedlaaGreatqFn
import Derived.Test.YtddpmkmgbdedlaaGreatqTvT
import Derived.Test.YtddpmkmgbdedlaaGreatqRd
import Derived.Test.YtddpmkmgbdedlaaGreatqTvT
import Derived.Laws.BitsAllLaws
set_option linter.unusedVariables false
set_option linter.unusedSimpArgs false
namespace Go.Proofs.YtddpmkmgbdedlaaGreat
open Go Go.Ev
def R32 (s:Int):Prop:=0≤s∧s < 4294967296
theorem zr7 {a b:Int} (ha:R32 a) (hb:R32 b):R32 (bits .xor .u32 a b):=by
  rw [u32_xor a b ha.1 ha.2 hb.1 hb.2]
  have h1:=ha.1; have h2:=ha.2; have h3:=hb.1; have h4:=hb.2
  have:=Nat.xor_lt_two_pow (x:=a.toNat) (y:=b.toNat) (n:=32) (by omega) (by omega)
  exact ⟨by omega,by omega⟩
theorem and32_one {s:Int} (h:R32 s):bits .and .u32 s 1=s % 2:=by
  rw [u32_and s 1 h.1 h.2 (by decide) (by decide)]
  have:(1:Int).toNat=1:=rfl
  rw [this,nat_mask1]
  have:=h.1
  omega
theorem shr32_one (s:Int):shr .u32 s 1=s / 2:=by
  simp only [shr,IntKind.bits]
  rw [show (min (1:Int).toNat 32)=1 from rfl,Int.fdiv_eq_ediv_of_nonneg _ (by decide)]
  rfl
def stepc (s:Int):Int:=if s % 2=1 then bits .xor .u32 (s / 2) 3988292384 else s / 2
theorem zx3 {s:Int} (h:R32 s):R32 (stepc s):=by
  have h1:=h.1; have h2:=h.2
  have hd:R32 (s / 2):=⟨by omega,by omega⟩
  unfold stepc; split
  · exact zr7 hd ⟨by decide,by decide⟩
  · exact hd
def stepn:Nat→Int→Int
  | 0,s=>s
  | n+1,s=>stepn n (stepc s)
def updc (s b:Int):Int:=stepn 8 (bits .xor .u32 s b)
theorem zx4:∀ (n:Nat) {s:Int},R32 s→R32 (stepn n s)
  | 0,_,h=>h
  | n+1,_,h=>zx4 n (zx3 h)
def byteR (b:Int):Prop:=0≤b∧b≤255
theorem zyr {s b:Int} (h:R32 s) (hb:byteR b):R32 (updc s b):=zx4 8 (zr7 h ⟨hb.1,by have:=hb.2; omega⟩)
theorem zys:∀ (l:List Int) {s:Int},R32 s→(∀ b∈l,byteR b)→R32 (l.foldl updc s)
  | [],_,h,_=>h
  | b :: l,_,h,hb=>zys l (zyr h (hb b (by simp))) fun x hx=>hb x (by simp [hx])
def sumB (l:List Int):Int:=bits .xor .u32 IntKind.u32.max (l.foldl updc 4294967295)
def vint (u:Nat):List Int:=if h:u < 128 then [(u:Int)] else ((u % 128+128:Nat):Int) :: vint (u / 128)
  termination_by u
  decreasing_by omega
theorem zx5 {u:Nat} (h:u < 128):vint u=[(u:Int)]:=by rw [vint,dif_pos h]
theorem zx6 {u:Nat} (h:128≤u):vint u=((u % 128+128:Nat):Int) :: vint (u / 128):=by rw [vint,dif_neg (by omega)]
theorem z145:∀ (k u:Nat),u < 128 ^ (k+1)→(vint u).length≤k+1
  | k, u, h => by
    by_cases hu:u < 128
    · rw [zx5 hu]; simp
    · rw [zx6 (by omega)]
      cases k with
      | zero=>simp at h; omega
      | succ k =>
        have:u / 128 < 128 ^ (k+1):=by rw [Nat.div_lt_iff_lt_mul (by decide)]; rw [← Nat.pow_succ]; exact h
        have:=z145 k _ this
        simp only [List.length_cons]; omega
theorem zfh {u:Nat} (h:u < 18446744073709551616):(vint u).length≤10:=z145 9 u (Nat.lt_trans h (by decide))
theorem z11s:∀ (k u:Nat),u < 128 ^ (k+1)→∀ b∈vint u,byteR b
  | k, u, h, b, hb => by
    by_cases hu:u < 128
    · rw [zx5 hu] at hb; simp at hb; subst hb; exact ⟨by omega,by omega⟩
    · rw [zx6 (by omega)] at hb
      rcases List.mem_cons.1 hb with rfl | hb
      · exact ⟨by omega,by omega⟩
      · cases k with
        | zero=>simp at h; omega
        | succ k =>
          have:u / 128 < 128 ^ (k+1):=by rw [Nat.div_lt_iff_lt_mul (by decide)]; rw [← Nat.pow_succ]; exact h
          exact z11s k _ this b hb
def zig (n:Int):Nat:=if n < 0 then (-2 * n - 1).toNat else (2 * n).toNat
def R64 (n:Int):Prop:=-9223372036854775808≤n∧n≤9223372036854775807
theorem zyt {n:Int} (h:R64 n):zig n < 18446744073709551616:=by have h1:=h.1; have h2:=h.2; unfold zig; split<;>omega
theorem z138 {x:Nat} (h:x < 18446744073709551616):18446744073709551615 ^^^ x=18446744073709551615 - x:=by
  have e1:18446744073709551615=2 ^ 64 - 1:=by decide
  have e2:18446744073709551615 - x=2 ^ 64 - (x+1):=by omega
  rw [e2,e1]
  refine Nat.eq_of_testBit_eq fun i=>?_
  rw [Nat.testBit_xor,Nat.testBit_two_pow_sub_one,Nat.testBit_two_pow_sub_succ (by omega)]
  by_cases hi:i < 64
  · simp [hi]
  · have:x.testBit i=false:=Nat.testBit_lt_two_pow (Nat.lt_of_lt_of_le (show x < 2 ^ 64 by omega) (Nat.pow_le_pow_right (by decide) (by omega)))
    simp [hi,this]
theorem z11t {x:Int} (h0:0≤x) (h:x < 18446744073709551616):bits .xor .u64 IntKind.u64.max x=18446744073709551615 - x:=by
  rw [u64_xor _ x (by decide) (by decide) h0 h]
  rw [show IntKind.u64.max.toNat=18446744073709551615 from rfl,z138 (by omega)]
  omega
theorem z11u (a:Int):shl .u64 a 1=(a * 2) % 18446744073709551616:=by
  simp only [shl,IntKind.bits]
  rw [show (min (1:Int).toNat 64)=1 from rfl]
  simp [IntKind.wrap,IntKind.bits,IntKind.signed]
theorem shr64 {a:Int} {k:Nat} (hk:k < 64):shr .u64 a (k:Int)=a / (2 ^ k:Nat):=by
  simp only [shr,IntKind.bits]
  rw [show (min (k:Int).toNat 64)=k by omega,Int.fdiv_eq_ediv_of_nonneg _ (by exact Int.pow_nonneg (by decide))]
  simp
theorem zmo (n:Int):IntKind.u64.wrap n=n % 18446744073709551616:=by simp [IntKind.wrap,IntKind.bits,IntKind.signed]
theorem zyu (n:Int):IntKind.u8.wrap n=n % 256:=by simp [IntKind.wrap,IntKind.bits,IntKind.signed]
theorem or128:∀ x:Fin 256,x.val ||| 128=x.val % 128+128:=by decide +kernel
theorem or8_128 (u:Int) (h:0≤u):bits .or .u8 (IntKind.u8.wrap u) 128=u % 128+128:=by
  rw [zyu,u8_or _ _ (by omega) (by omega) (by decide) (by decide)]
  have:=or128 ⟨(u % 256).toNat,by omega⟩
  simp only at this
  rw [show (128:Int).toNat=128 from rfl,this]
  omega
theorem loop49 {N:Nat} (hN:11≤N) {u:Int} (h0:0≤u) (h1:u < 18446744073709551616):iter N (fun (s1:z5s) next2 =>
     (bif (decide (128≤s1.u)) then
     (bif (lenB ((s1.b).length+([(bits .or .u8 (IntKind.u8.wrap s1.u) 128)]).length) 1) then
     (next2 ⟨(shr .u64 s1.u 7),(s1.b++[(bits .or .u8 (IntKind.u8.wrap s1.u) 128)])⟩)
     else none)
     else
     (bif (lenB ((s1.b).length+([(IntKind.u8.wrap s1.u)]).length) 1) then
     (some (s1.b++[(IntKind.u8.wrap s1.u)]))
     else none))) ⟨u,[]⟩=some (vint u.toNat):=by
  refine z2i (fun q:z5s=>0≤q.u∧q.u < 18446744073709551616∧q.b++vint q.u.toNat=vint u.toNat) (fun q=>(vint q.u.toNat).length) ?_ N _ ⟨h0,h1,by simp⟩ (by have:=zfh (u:=u.toNat) (by omega); simp only; omega)
  rintro ⟨q,b⟩ nx ⟨g0,g1,hq⟩ ih
  simp only at g0 g1 hq ih ⊢
  have hlen:=congrArg List.length hq
  have hv:=zfh (u:=u.toNat) (by omega)
  rw [List.length_append] at hlen
  rw [zd6 (by simp; omega),zd6 (by simp; omega)]
  by_cases h:128≤q
  · simp only [decide_eq_true h,cond_true,or8_128 q g0]
    have e7:shr .u64 q 7=q / 128:=shr64 (k:=7) (by decide)
    rw [e7]
    have hge:=zx6 (u:=q.toNat) (by omega)
    have ed:(q / 128).toNat=q.toNat / 128:=by omega
    refine ih ⟨q / 128,b++[q % 128+128]⟩ ⟨by simp; omega,by simp; omega,?_⟩ ?_
    · simp only
      have ec:((q.toNat % 128+128:Nat):Int)=q % 128+128:=by omega
      rw [ed,← hq,hge,List.append_assoc,ec]
      rfl
    · simp only; rw [ed,hge]; simp
  · have hd:decide (128≤q)=false:=by simpa using h
    simp only [hd,cond_false,cond_true]
    rw [← hq,zx5 (u:=q.toNat) (by omega),zyu]
    congr 3
    omega
theorem F49_eq {N:Nat} (hN:11≤N) {n:Int} (hn:R64 n):zc9 N n=some (vint (zig n)):=by
  have h1:=hn.1; have h2:=hn.2
  unfold zc9
  by_cases h:n < 0
  · simp only [decide_eq_true h,cond_true]
    have e:bits .xor .u64 IntKind.u64.max (shl .u64 (IntKind.u64.wrap n) 1)=-2 * n - 1:=by
      rw [z11u,zmo,z11t (by omega) (by omega)]; omega
    rw [e,loop49 hN (by omega) (by omega)]
    simp only [zig,if_pos h]
  · have hd:decide (n < 0)=false:=by simpa using h
    simp only [hd,cond_false]
    have e:shl .u64 (IntKind.u64.wrap n) 1=2 * n:=by rw [z11u,zmo]; omega
    rw [e,loop49 hN (by omega) (by omega)]
    simp only [zig,if_neg h]
theorem zyv {N:Nat} {l:List Int} (h:l.length≤70368744177664):z2u N l=some l:=by
  unfold z2u z9x
  rw [zd6 (by omega)]
  rfl
def zps (w:List Int) (x:List Int):Int×Bool×List Int:=if w.length+x.length≤1048576 then (0,true,w++x) else (3,true,w)
theorem F48_eq {N:Nat} {l:List (List Int)} {w:List Int} (hN:l.length < N) (hl:l.length≤1000000) (hw:w.length≤1048576) (hm:∀ m∈l,m.length≤4611686018427387904):z58 N l true w=some (zps w l.flatten):=by
  unfold z58 z4n
  simp only [Option.bind_some,Bool.not_true,cond_false]
  have second:w.length+l.flatten.length≤1048576→iter N (fun (s4:z2g) next5 =>
       (bif (decide (s4.t35 < ((l).length:Int))) then
       (bif (ibB s4.t35 ((l).length:Int)) then
       (bif (lenB ((s4.b02).length+((lget l s4.t35 default)).length) 1) then
       (next5 ⟨(IntKind.i64.wrap (s4.t35+1)),s4.b0,(s4.b02++(lget l s4.t35 default))⟩)
       else none)
       else none)
       else
       (some ((0:Int),s4.b0,s4.b02)))) ⟨0,true,w⟩=some (0,true,w++l.flatten):=fun htot=>by
    refine z2i (fun q:z2g=>0≤q.t35∧q.t35≤(l.length:Int)∧q.b0=true∧q.b02++(l.drop q.t35.toNat).flatten=w++l.flatten) (fun q=>((l.length:Int) - q.t35).toNat) ?_ N _ ⟨by simp,by simp,rfl,by simp⟩ (by simp; omega)
    rintro ⟨i,b0,b⟩ nx ⟨g0,g1,rfl,hq⟩ ih
    simp only at g0 g1 hq ih ⊢
    by_cases hi:i < l.length
    · have hd:=z2a (default:List Int) g0 hi
      rw [hd,List.flatten_cons] at hq
      have hlen:=congrArg List.length hq
      simp only [List.length_append] at hlen
      simp only [decide_eq_true hi,z3x g0 hi,cond_true]
      rw [zd6 (by omega),z20 (by omega) (by omega)]
      exact ih ⟨i+1,true,b++lget l i default⟩ ⟨by simp; omega,by simp; omega,rfl,by simp only [List.append_assoc]; exact hq⟩ (by simp; omega)
    · have:decide (i < (l.length:Int))=false:=by simpa using hi
      simp only [this,cond_false]
      rw [List.drop_eq_nil_of_le (by omega)] at hq
      rw [← hq]; simp
  refine z2i (fun q:z34=>0≤q.t19∧q.t19≤(l.length:Int)∧0≤q.n∧q.n≤1048576∧q.n+(l.drop q.t19.toNat).flatten.length=w.length+l.flatten.length) (fun q=>((l.length:Int) - q.t19).toNat) ?_ N _ ⟨by simp,by simp,by simp,by simp; omega,by simp⟩ (by simp; omega)
  rintro ⟨n,i⟩ nx ⟨g0,g1,g2,g3,hq⟩ ih
  simp only at g0 g1 g2 g3 hq ih ⊢
  by_cases hi:i < l.length
  · have hd:=z2a (default:List Int) g0 hi
    have hmi:=hm _ (za9 (default:List Int) g0 hi)
    rw [hd,List.flatten_cons,List.length_append] at hq
    simp only [decide_eq_true hi,z3x g0 hi,cond_true,Bool.cond_decide]
    rw [z20 (n:=1048576 - n) (by omega) (by omega)]
    split
    · rename_i hlong
      rw [zps,if_neg (by omega)]
    · rename_i hfit
      rw [z20 (by omega) (by omega),z20 (by omega) (by omega)]
      exact ih ⟨_,i+1⟩ ⟨by simp; omega,by simp; omega,by simp; omega,by simp; omega,by simp only; omega⟩ (by simp; omega)
  · have:decide (i < (l.length:Int))=false:=by simpa using hi
    simp only [this,cond_false]
    rw [List.drop_eq_nil_of_le (by omega)] at hq
    simp only [List.flatten_nil,List.length_nil] at hq
    rw [zps,if_pos (by omega)]
    exact second (by omega)
theorem F31_eq {N:Nat} (hN:11≤N) {n:Int} (hn:R64 n) {w:List Int} (hw:w.length≤1048576):z59 N n true w=some (zps w (vint (zig n))):=by
  have:=zfh (zyt hn)
  unfold z59
  rw [F49_eq hN hn,Option.bind_some,F48_eq (by simp; omega) (by simp) hw (by intro m hm; simp at hm; subst hm; omega)]
  simp
theorem F20_eq {N:Nat} {w:List Int} (hw:w.length≤1048576):z8h N true w=some (w,true,w):=by
  unfold z8h z4n
  simp only [Option.bind_some,Bool.not_true,cond_false]
  rw [zyv (by omega)]; rfl
def unzig (u:Nat):Int:=if u % 2=1 then -((u / 2:Nat):Int) - 1 else ((u / 2:Nat):Int)
def pv:Nat→Nat→List Int→Int×Int×Int
  | _,_,[]=>(0,0,10)
  | i,u,x :: r=>if i=9∧1 < x then (0,0,11) else if 128≤x then pv (i+1) (u+(x % 128).toNat * 128 ^ i) r else if x=0∧0 < i then (0,0,11) else (unzig (u+x.toNat * 128 ^ i),(i:Int)+1,0)
theorem pow128 {k:Nat} (hk:k≤9):128 ^ k≤9223372036854775808:=by
  have:128 ^ k≤128 ^ 9:=Nat.pow_le_pow_right (by decide) hk
  exact Nat.le_trans this (by decide)
theorem z139 {a k:Nat} (ha:a < 128) (hk:k≤9) (h9:k=9→a≤1):a * 128 ^ k≤9223372036854775808:=by
  by_cases h:k=9
  · subst h
    have:a * 128 ^ 9≤1 * 128 ^ 9:=Nat.mul_le_mul_right _ (h9 rfl)
    exact Nat.le_trans this (by decide)
  · have h1:a * 128 ^ k≤128 * 128 ^ k:=Nat.mul_le_mul_right _ (by omega)
    have h2:128 * 128 ^ k=128 ^ (k+1):=by rw [Nat.pow_succ,Nat.mul_comm]
    exact Nat.le_trans (h2▸h1) (pow128 (by omega))
theorem shl_part {a:Int} {k:Nat} (h0:0≤a) (ha:a < 128) (hk:k≤9) (h9:k=9→a≤1):shl .u64 a (IntKind.i64.wrap (7 * (k:Int)))=((a.toNat * 128 ^ k:Nat):Int):=by
  rw [z20 (by omega) (by omega)]
  simp only [shl,IntKind.bits]
  rw [show (min (7 * (k:Int)).toNat 64)=7 * k by omega,zmo]
  have hp:=z139 (a:=a.toNat) (by omega) hk (fun h=>by have:=h9 h; omega)
  have e:a * 2 ^ (7 * k)=((a.toNat * 128 ^ k:Nat):Int):=by
    have e2:(128:Nat) ^ k=2 ^ (7 * k):=by rw [Nat.pow_mul]
    rw [e2]
    push_cast
    rw [Int.toNat_of_nonneg h0]
  rw [e]
  omega
theorem or_part {u a k:Nat} (hu:u < 128 ^ k) (hk:k≤9) (ha:a * 128 ^ k≤9223372036854775808):bits .or .u64 (u:Int) ((a * 128 ^ k:Nat):Int)=((u+a * 128 ^ k:Nat):Int):=by
  have hp:=pow128 hk
  rw [u64_or _ _ (by omega) (by omega) (by omega) (by omega)]
  have e2:(128:Nat) ^ k=2 ^ (7 * k):=by rw [Nat.pow_mul]
  have:=nat_join (7 * k) (a * 128 ^ k) u (by rw [e2]; exact Nat.mul_mod_left _ _) (by rw [← e2]; exact hu)
  rw [Int.toNat_natCast,Int.toNat_natCast,Nat.or_comm,this]
  omega
theorem and8_127 {c:Int} (h:byteR c):bits .and .u8 c 127=c % 128:=by
  have h0:=h.1; have h1:=h.2
  rw [u8_and c 127 h0 (by omega) (by decide) (by decide),show (127:Int).toNat=127 from rfl,nat_mask7]
  omega
theorem and64_one {v:Nat} (h:v < 18446744073709551616):bits .and .u64 (v:Int) 1=((v % 2:Nat):Int):=by
  rw [u64_and _ 1 (by omega) (by omega) (by decide) (by decide),show (1:Int).toNat=1 from rfl,Int.toNat_natCast,nat_mask1]
theorem shr64_one (v:Nat):shr .u64 (v:Int) 1=((v / 2:Nat):Int):=by
  have:=shr64 (a:=(v:Int)) (k:=1) (by decide)
  rw [show ((1:Nat):Int)=1 from rfl] at this
  rw [this]; omega
theorem sum_lt {u a k:Nat} (hu:u < 128 ^ k) (ha:a < 128) (hk:k≤9) (h9:k=9→a≤1):u+a * 128 ^ k < 18446744073709551616:=by
  have:=z139 ha hk h9
  have:=pow128 hk
  omega
theorem z108 {u a k:Nat} (hu:u < 128 ^ k) (ha:a < 128):u+a * 128 ^ k < 128 ^ (k+1):=by
  have:a * 128 ^ k≤127 * 128 ^ k:=Nat.mul_le_mul_right _ (by omega)
  rw [Nat.pow_succ]; omega
theorem F45_eq {N:Nat} (hN:11≤N) {b:List Int} (hl:b.length≤9223372036854775807) (hb:∀ x∈b,byteR x):ze2 N b=some (pv 0 0 b):=by
  unfold ze2
  refine z2i (fun q:zax=>∃ k u:Nat,q.t8=k∧q.u=u∧k≤9∧u < 128 ^ k∧pv k u (b.drop k)=pv 0 0 b) (fun q=>(9 - q.t8).toNat) ?_ N _ ⟨0,0,rfl,rfl,by omega,by simp,rfl⟩ (by simp; omega)
  rintro ⟨u',i'⟩ nx ⟨k,u,rfl,rfl,hk,hu,hq⟩ ih
  simp only at ih ⊢
  have hk10:decide ((k:Int) < 10)=true:=by simp; omega
  simp only [hk10,cond_true,Bool.cond_decide]
  split
  · rename_i hend
    rw [List.drop_eq_nil_of_le (by omega)] at hq
    rw [← hq,pv]
  · rename_i hlt
    have hlt':(k:Int) < b.length:=by omega
    have hd:=z2a (default:Int) (Int.natCast_nonneg k) hlt'
    have hmem:=hb _ (za9 (default:Int) (Int.natCast_nonneg k) hlt')
    rw [Int.toNat_natCast] at hd
    rw [hd] at hq
    generalize lget b (k:Int) default=c at hq hmem hd ⊢
    have h0:=hmem.1; have h1:=hmem.2
    rw [z3x (Int.natCast_nonneg k) hlt',and8_127 hmem]
    simp only [cond_true]
    rw [pv] at hq
    by_cases hform:(((k:Int)==9)&&decide (1 < c) || (c==0)&&decide (0 < (k:Int)))=true
    · rw [hform]
      simp only [cond_true]
      rw [← hq]
      simp only [Bool.or_eq_true,Bool.and_eq_true,beq_iff_eq,decide_eq_true_eq] at hform
      rcases hform with ⟨a1,a2⟩ | ⟨a1,a2⟩
      · rw [if_pos ⟨by omega,a2⟩]
      · by_cases h9:k=9∧1 < c
        · rw [if_pos h9]
        · rw [if_neg h9,if_neg (by omega),if_pos ⟨a1,by omega⟩]
    · have hf:(((k:Int)==9)&&decide (1 < c) || (c==0)&&decide (0 < (k:Int)))=false:=by simpa using hform
      rw [hf]
      simp only [cond_false]
      have n1:¬ (k=9∧1 < c):=fun h=>hform (by simp [h.1,h.2])
      have n2:¬ (c=0∧0 < k):=fun h=>hform (by simp [h.1]; omega)
      rw [if_neg n1] at hq
      have h7:0≤IntKind.i64.wrap (7 * (k:Int)):=by rw [z20 (by omega) (by omega)]; omega
      rw [if_pos h7]
      have e0:IntKind.u64.wrap (c % 128)=c % 128:=by rw [zmo]; omega
      have hs:=shl_part (a:=c % 128) (k:=k) (by omega) (by omega) hk (fun h=>by
        have:¬ 1 < c:=fun h'=>n1 ⟨h,h'⟩
        omega)
      have h9':k=9→(c % 128).toNat≤1:=fun h=>by
        have:¬ 1 < c:=fun h'=>n1 ⟨h,h'⟩
        omega
      have ho:=or_part hu hk (z139 (a:=(c % 128).toNat) (by omega) hk h9')
      have hV:=sum_lt hu (a:=(c % 128).toNat) (by omega) hk h9'
      rw [e0,hs,ho]
      generalize hVe:u+(c % 128).toNat * 128 ^ k=v at hV hq ⊢
      split
      · rename_i hc
        rw [if_neg (by omega),if_neg n2] at hq
        have ec:c.toNat=(c % 128).toNat:=by omega
        rw [ec,hVe] at hq
        rw [← hq,and64_one hV,shr64_one]
        have ek:IntKind.i64.wrap ((k:Int)+1)=(k:Int)+1:=z20 (by omega) (by omega)
        rw [ek]
        unfold unzig
        by_cases hodd:v % 2=1
        · rw [hodd,if_pos rfl]
          rw [z11t (by omega) (by omega)]
          have:IntKind.i64.wrap (18446744073709551615 - ((v / 2:Nat):Int))=-((v / 2:Nat):Int) - 1:=by
            rw [IntKind.wrap]
            simp [IntKind.bits,IntKind.signed]
            split<;>omega
          rw [this]; rfl
        · have he:v % 2=0:=by omega
          rw [he,if_neg (by omega)]
          simp only [show (((0:Nat):Int)==1)=false from rfl,cond_false]
          rw [z20 (by omega) (by omega)]
      · rename_i hc
        have ekk:((k:Int)+1).toNat=k+1:=by omega
        rw [if_pos (by omega),ekk] at hq
        rw [z20 (n:=(k:Int)+1) (by omega) (by omega)]
        have hk9:k≠9:=fun h=>n1 ⟨h,by omega⟩
        exact ih ⟨(v:Int),(k:Int)+1⟩ ⟨k+1,v,by simp,rfl,by omega,hVe▸z108 hu (by omega),hq⟩ (by simp; omega)
theorem pv_vint:∀ (m i u v:Nat) (rest:List Int),v < 128 ^ (m+1)→i+m≤9→u < 128 ^ i→u+v * 128 ^ i < 18446744073709551616→(0 < i→0 < v) →
    pv i u (vint v++rest)=(unzig (u+v * 128 ^ i),(i:Int)+(vint v).length,0)
  | m, i, u, v, rest, hv, hm, hu, hs, hp => by
    have key:i=9→v≤1:=fun h=>by
      subst h
      have:v * 128 ^ 9 < 2 * 128 ^ 9:=by
        have:(2:Nat) * 128 ^ 9=18446744073709551616:=by decide
        omega
      have:=Nat.lt_of_mul_lt_mul_right this
      omega
    by_cases h:v < 128
    · rw [zx5 h,List.singleton_append,pv]
      rw [if_neg (fun h'=>by have:=key h'.1; omega),if_neg (by omega),if_neg (fun h'=>by have:=hp h'.2; omega)]
      simp
    · rw [zx6 (by omega), List.cons_append, pv]
      have h9:i≠9:=fun h'=>by have:=key h'; omega
      cases m with
      | zero=>simp at hv; omega
      | succ m =>
        rw [if_neg (fun h'=>h9 h'.1),if_pos (by omega)]
        have e1:((((v % 128+128:Nat):Int)) % 128).toNat=v % 128:=by omega
        have e2:v % 128 * 128 ^ i+v / 128 * 128 ^ (i+1)=v * 128 ^ i:=by
          rw [Nat.pow_succ,Nat.mul_comm (128 ^ i) 128,← Nat.mul_assoc,← Nat.add_mul]
          congr 1; omega
        rw [e1,pv_vint m (i+1) _ (v / 128) rest (by rw [Nat.div_lt_iff_lt_mul (by decide)]; rw [← Nat.pow_succ]; exact hv) (by omega) (z108 hu (by omega)) (by omega) (fun _=>by omega)]
        rw [show u+v % 128 * 128 ^ i+v / 128 * 128 ^ (i+1)=u+v * 128 ^ i by omega]
        simp only [List.length_cons]
        congr 2
        push_cast; omega
theorem unzig_zig (n:Int):unzig (zig n)=n:=by
  unfold unzig zig; split<;>split<;>omega
theorem pv_zig {n:Int} (hn:R64 n) (rest:List Int):pv 0 0 (vint (zig n)++rest)=(n,((vint (zig n)).length:Int),0):=by
  have hz:=zyt hn
  rw [pv_vint 9 0 0 (zig n) rest (Nat.lt_trans hz (by decide)) (by omega) (by simp) (by simpa using hz) (by simp)]
  simp [unzig_zig]
theorem zx7 {v:Nat} (h:v < 18446744073709551616):R64 (unzig v):=by
  unfold unzig; split<;>exact ⟨by omega,by omega⟩
theorem pv_out:∀ (r:List Int) (i u:Nat),(∀ x∈r,byteR x)→i≤9→u < 128 ^ i →
    (∃ (n:Int) (k:Nat),pv i u r=(n,(k:Int),0)∧i < k∧k≤i+r.length∧R64 n)∨pv i u r=(0,0,10)∨pv i u r=(0,0,11)
  | [],i,u,_,_,_=>.inr (.inl (by rw [pv]))
  | x :: r, i, u, hb, hi, hu => by
    have hx:=hb x (by simp)
    have h0:=hx.1; have h1:=hx.2
    rw [pv]
    by_cases h9:i=9∧1 < x
    · rw [if_pos h9]; exact .inr (.inr rfl)
    · rw [if_neg h9]
      by_cases hc:128≤x
      · rw [if_pos hc]
        have hi9:i≠9:=fun h=>h9 ⟨h,by omega⟩
        rcases pv_out r (i+1) _ (fun y hy=>hb y (by simp [hy])) (by omega) (z108 hu (a:=(x % 128).toNat) (by omega)) with ⟨n,k,e,a1,a2,a3⟩ | e | e
        · exact .inl ⟨n,k,e,by omega,by simp only [List.length_cons]; omega,a3⟩
        · exact .inr (.inl e)
        · exact .inr (.inr e)
      · rw [if_neg hc]
        by_cases hz:x=0∧0 < i
        · rw [if_pos hz]; exact .inr (.inr rfl)
        · rw [if_neg hz]
          refine .inl ⟨unzig (u+x.toNat * 128 ^ i),i+1,by simp,by omega,by simp only [List.length_cons]; omega,zx7 (sum_lt (a:=x.toNat) hu (by omega) hi fun h=>?_)⟩
          have:¬ 1 < x:=fun h'=>h9 ⟨h,h'⟩
          omega
theorem pv_k {b:List Int} (hb:∀ x∈b,byteR x):0≤(pv 0 0 b).2.1∧(pv 0 0 b).2.1≤(b.length:Int)∧R64 (pv 0 0 b).1∧((pv 0 0 b).2.2≠0→(pv 0 0 b).1=0∧(pv 0 0 b).2.1=0):=by
  rcases pv_out b 0 0 hb (by omega) (by simp) with ⟨n,k,e,a1,a2,a3⟩ | e | e
  · rw [e]; exact ⟨by simp,by simp; omega,a3,fun h=>absurd rfl h⟩
  · rw [e]; exact ⟨by simp,by simp,⟨by decide,by decide⟩,fun _=>⟨rfl,rfl⟩⟩
  · rw [e]; exact ⟨by simp,by simp,⟨by decide,by decide⟩,fun _=>⟨rfl,rfl⟩⟩
def rI (b:List Int):Int×Int×List Int:=((pv 0 0 b).1,(pv 0 0 b).2.2,b.drop (pv 0 0 b).2.1.toNat)
def rB (b:List Int):List Int×Int×List Int :=
  if (pv 0 0 b).2.2≠0 then ([],(pv 0 0 b).2.2,b) else if (pv 0 0 b).1 < 0 then ([],11,b) else if (b.length:Int) - (pv 0 0 b).2.1 < (pv 0 0 b).1 then ([],10,b)
  else ((b.drop (pv 0 0 b).2.1.toNat).take (pv 0 0 b).1.toNat,0,b.drop ((pv 0 0 b).2.1+(pv 0 0 b).1).toNat)
theorem cut_end {b:List Int} (k:Int):cut b k (b.length:Int)=b.drop k.toNat:=by
  simp only [cut]; rw [List.take_of_length_le (by simp)]
section
variable {N:Nat} {b:List Int}
theorem F22_eq (hN:11≤N) (hl:b.length≤70368744177664) (hb:∀ x∈b,byteR x):z8e N ⟨true,b⟩=some ((rI b).1,(rI b).2.1,⟨true,(rI b).2.2⟩):=by
  obtain ⟨a1,a2,_,_⟩:=pv_k hb
  unfold z8e z2z
  simp only [Option.bind_some,Bool.not_true,cond_false,F45_eq hN (by omega) hb]
  rw [ztp a1 a2 (Int.le_refl _),cut_end]; rfl
theorem F23_eq (hN:11≤N) (hl:b.length≤70368744177664) (hb:∀ x∈b,byteR x):z47 N ⟨true,b⟩=some ((rB b).1,(rB b).2.1,⟨true,(rB b).2.2⟩):=by
  obtain ⟨a1,a2,a3,_⟩:=pv_k hb
  have a4:=a3.1; have a5:=a3.2
  unfold z47 z2z rB
  simp only [Option.bind_some,Bool.not_true,cond_false,F45_eq hN (show b.length≤9223372036854775807 by omega) hb]
  generalize hp:pv 0 0 b=p at a1 a2 a4 a5 ⊢
  by_cases he:p.2.2=0
  · rw [if_neg (by simpa using he)]
    have:(!(p.2.2==0))=false:=by simp [he]
    rw [this]
    simp only [cond_false]
    by_cases hn:p.1 < 0
    · rw [if_pos hn]; simp only [decide_eq_true hn,cond_true]
    · rw [if_neg hn]
      have hd:decide (p.1 < 0)=false:=by simpa using hn
      simp only [hd,cond_false]
      rw [z20 (n:=(b.length:Int) - p.2.1) (by omega) (by omega)]
      by_cases hlong:(b.length:Int) - p.2.1 < p.1
      · rw [if_pos hlong]; simp only [decide_eq_true hlong,cond_true]
      · rw [if_neg hlong]
        have hd:decide ((b.length:Int) - p.2.1 < p.1)=false:=by simpa using hlong
        simp only [hd,cond_false]
        rw [z20 (n:=p.2.1+p.1) (by omega) (by omega)]
        rw [ztp a1 (by omega) (by omega),ztp (by omega) (by omega) (Int.le_refl _),cut_end]
        have ec:cut b p.2.1 (p.2.1+p.1)=(b.drop p.2.1.toNat).take p.1.toNat:=by
          simp only [cut]; congr 1; omega
        rw [ec,zyv (by simp; omega)]; rfl
  · rw [if_pos he]
    have:(!(p.2.2==0))=true:=by simpa using he
    rw [this]; rfl
end
theorem rI_suffix (b:List Int):(rI b).2.2 <:+ b:=List.drop_suffix _ _
theorem z11v (b:List Int):(rB b).2.2 <:+ b:=by
  unfold rB; (repeat' split)<;>first | exact List.suffix_rfl | exact List.drop_suffix _ _
theorem suffix_ok {c b:List Int} (h:c <:+ b) (hl:b.length≤70368744177664) (hb:∀ x∈b,byteR x):c.length≤70368744177664∧∀ x∈c,byteR x :=
  ⟨Nat.le_trans h.length_le hl,fun x hx=>hb x (h.subset hx)⟩
theorem z13a (l:List UInt8):strI (zio l)=l:=by
  induction l with
  | nil=>rfl
  | cons b l ih=>simp only [zio,strI,List.map_cons,List.map_map] at ih ⊢; rw [ih]; simp
theorem zx8 {l:List Int} (h:∀ x∈l,byteR x):zio (strI l)=l:=by
  induction l with
  | nil=>rfl
  | cons b l ih =>
    have hb:=h b (by simp)
    have:=hb.1; have:=hb.2
    have e:((UInt8.ofNat b.toNat).toNat:Int)=b:=by
      rw [UInt8.toNat_ofNat']
      omega
    have ih':=ih fun x hx=>h x (by simp [hx])
    simp only [zio,strI,List.map_cons,List.map_map] at ih' ⊢
    rw [ih',e]
theorem zsh {n:Nat} (h:n≤1048576):R64 (n:Int):=⟨by omega,by omega⟩
section
variable {N:Nat} {w:List Int}
theorem F32_eq (hN:11≤N) {b:List Int} (hb:b.length≤1048576) (hw:w.length≤1048576):z48 N b true w=some (zps w (vint (zig (b.length:Int))++b)):=by
  have:=zfh (zyt (zsh hb))
  unfold z48
  rw [F49_eq hN (zsh hb),Option.bind_some,F48_eq (by simp; omega) (by simp) hw (by intro m hm; simp at hm; rcases hm with rfl | rfl<;>omega)]
  simp
end
theorem rounds14 {N:Nat} (hN:8 < N) {X:Type} (k:Int→Option X) {s:Int} (hs:R32 s):iter N (fun (s5:z8u) next6 =>
     (bif (decide (s5.t25 < 8)) then
     (bif ((bits .and .u32 s5.sum 1)==1) then
     (next6 ⟨(bits .xor .u32 (shr .u32 s5.sum 1) 3988292384),(IntKind.i64.wrap (s5.t25+1))⟩)
     else
     (next6 ⟨(shr .u32 s5.sum 1),(IntKind.i64.wrap (s5.t25+1))⟩))
     else (k s5.sum))) ⟨s,0⟩=k (stepn 8 s):=by
  refine z2i (fun q:z8u=>0≤q.t25∧q.t25≤8∧R32 q.sum∧stepn (8 - q.t25).toNat q.sum=stepn 8 s) (fun q=>(8 - q.t25).toNat) ?_ N _ ⟨by simp,by simp,hs,rfl⟩ (by simp; omega)
  rintro ⟨q,i⟩ nx ⟨h0,h8,hr,hq⟩ ih
  simp only at h0 h8 hr hq ih ⊢
  by_cases hi:i < 8
  · simp only [decide_eq_true hi,cond_true,and32_one hr,shr32_one]
    rw [z20 (by omega) (by omega)]
    have hstep:stepn (8 - (i+1)).toNat (stepc q)=stepn 8 s:=by
      rw [← hq]
      have:(8 - i).toNat=(8 - (i+1)).toNat+1:=by omega
      rw [this]; rfl
    have hres:=ih ⟨stepc q,i+1⟩ ⟨by simp; omega,by simp; omega,zx3 hr,hstep⟩ (by simp; omega)
    rw [← hres]
    unfold stepc
    by_cases h1:q % 2=1
    · have:(q % 2==1)=true:=by simpa using h1
      rw [this,if_pos h1]; rfl
    · have:(q % 2==1)=false:=by simpa using h1
      rw [this,if_neg h1]; rfl
  · have:decide (i < 8)=false:=by simpa using hi
    simp only [this,cond_false]
    have:(8 - i).toNat=0:=by omega
    rw [this] at hq
    rw [← hq]; rfl
theorem bytes14 {N:Nat} (hN:8 < N) {X:Type} (k:Int→Option X) {l:List Int} (hl:l.length < N) (hmax:l.length≤9223372036854775807) (hb:∀ b∈l,byteR b) {s:Int} (hs:R32 s) :
    iter N (fun (s3:zc2) next4 =>
     (bif (decide (s3.t17 < ((l).length:Int))) then
     (bif (ibB s3.t17 ((l).length:Int)) then
     (iter N (fun (s5:z8u) next6 =>
     (bif (decide (s5.t25 < 8)) then
     (bif ((bits .and .u32 s5.sum 1)==1) then
     (next6 ⟨(bits .xor .u32 (shr .u32 s5.sum 1) 3988292384),(IntKind.i64.wrap (s5.t25+1))⟩)
     else
     (next6 ⟨(shr .u32 s5.sum 1),(IntKind.i64.wrap (s5.t25+1))⟩))
     else
     (next4 ⟨s5.sum,(IntKind.i64.wrap (s3.t17+1))⟩))) ⟨(bits .xor .u32 s3.sum (IntKind.u32.wrap (lget l s3.t17 default))),0⟩)
     else none)
     else (k s3.sum))) ⟨s,0⟩=k (l.foldl updc s):=by
  refine z2i (fun q:zc2=>0≤q.t17∧q.t17≤(l.length:Int)∧R32 q.sum∧(l.drop q.t17.toNat).foldl updc q.sum=l.foldl updc s) (fun q=>((l.length:Int) - q.t17).toNat) ?_ N _ ⟨by simp,by simp,hs,by simp⟩ (by simp; omega)
  rintro ⟨q,i⟩ nx ⟨h0,h8,hr,hq⟩ ih
  simp only at h0 h8 hr hq ih ⊢
  by_cases hi:i < l.length
  · have hbi:=hb _ (za9 (default:Int) h0 hi)
    simp only [decide_eq_true hi,cond_true,z3x h0 hi]
    rw [wrapU32 hbi.1 (by have:=hbi.2; omega)]
    rw [rounds14 hN (fun t=>nx ⟨t,IntKind.i64.wrap (i+1)⟩) (zr7 hr ⟨hbi.1,by have:=hbi.2; omega⟩)]
    rw [z20 (by omega) (by omega)]
    refine ih ⟨updc q (lget l i default),i+1⟩ ⟨by simp; omega,by simp; omega,zyr hr hbi,?_⟩ (by simp; omega)
    rw [← hq,z2a (default:Int) h0 hi,List.foldl_cons]
  · have:decide (i < (l.length:Int))=false:=by simpa using hi
    simp only [this,cond_false]
    rw [List.drop_eq_nil_of_le (by omega)] at hq
    rw [← hq]; rfl
theorem F14_eq {N:Nat} {l:List (List Int)} (hN:l.length+9≤N) (hmax:l.length≤9223372036854775807) (hb:∀ m∈l,m.length+9≤N∧m.length≤9223372036854775807∧∀ b∈m,byteR b):znz N l=some (sumB l.flatten):=by
  unfold znz
  refine z2i (fun q:ze0=>0≤q.t11∧q.t11≤(l.length:Int)∧R32 q.sum∧(l.drop q.t11.toNat).flatten.foldl updc q.sum=l.flatten.foldl updc 4294967295) (fun q=>((l.length:Int) - q.t11).toNat) ?_ N _ ⟨by simp,by simp,⟨by decide,by decide⟩,by simp⟩ (by simp; omega)
  rintro ⟨q,i⟩ nx ⟨h0,h8,hr,hq⟩ ih
  simp only at h0 h8 hr hq ih ⊢
  by_cases hi:i < l.length
  · obtain ⟨m1,m2,m3⟩:=hb _ (za9 (default:List Int) h0 hi)
    simp only [decide_eq_true hi,cond_true,z3x h0 hi]
    rw [bytes14 (by omega) (fun t=>nx ⟨t,IntKind.i64.wrap (i+1)⟩) (by omega) m2 m3 hr]
    rw [z20 (by omega) (by omega)]
    refine ih ⟨_,i+1⟩ ⟨by simp; omega,by simp; omega,zys _ hr m3,?_⟩ (by simp; omega)
    rw [← hq,z2a (default:List Int) h0 hi,List.flatten_cons,List.foldl_append]
  · have:decide (i < (l.length:Int))=false:=by simpa using hi
    simp only [this,cond_false]
    rw [List.drop_eq_nil_of_le (by omega)] at hq
    rw [sumB,← hq]; rfl
theorem rI_back {n:Int} (hn:R64 n) (rest:List Int):rI (vint (zig n)++rest)=(n,0,rest):=by
  unfold rI; rw [pv_zig hn]; simp
theorem rB_back {b:List Int} (hb:b.length≤1048576) (rest:List Int):rB (vint (zig (b.length:Int))++b++rest)=(b,0,rest):=by
  unfold rB
  rw [List.append_assoc,pv_zig (zsh hb)]
  rw [if_neg (by simp),if_neg (by simp),if_neg (by simp; omega)]
  have e:(((vint (zig (b.length:Int))).length:Int)+(b.length:Int)).toNat=(vint (zig (b.length:Int))++b).length:=by simp; omega
  simp only [Int.toNat_natCast,List.drop_left,List.take_left]
  rw [e,← List.append_assoc,List.drop_left]
theorem z146:∀ (r:List Int) (i u:Nat) (n k:Int),(∀ x∈r,byteR x)→i≤9→u < 128 ^ i→pv i u r=(n,k,0) →
    ∃ (v:Nat) (rest:List Int),r=vint v++rest∧n=unzig (u+v * 128 ^ i)∧k=(i:Int)+(vint v).length∧u+v * 128 ^ i < 18446744073709551616∧(0 < i→0 < v)
  | [],i,u,n,k,_,_,_,h=>by rw [pv] at h; cases h
  | x :: r, i, u, n, k, hb, hi, hu, h => by
    have hx:=hb x (by simp)
    have h0:=hx.1; have h1:=hx.2
    rw [pv] at h
    by_cases h9:i=9∧1 < x
    · rw [if_pos h9] at h; cases h
    · rw [if_neg h9] at h
      by_cases hc:128≤x
      · rw [if_pos hc] at h
        have hi9:i≠9:=fun h=>h9 ⟨h,by omega⟩
        obtain ⟨v,rest,e1,e2,e3,e4,e5⟩:=z146 r (i+1) _ n k (fun y hy=>hb y (by simp [hy])) (by omega) (z108 hu (a:=(x % 128).toNat) (by omega)) h
        have hv:=e5 (by omega)
        have ed:((x % 128).toNat+128 * v) / 128=v:=by omega
        have em:((x % 128).toNat+128 * v) % 128=(x % 128).toNat:=by omega
        have es:u+((x % 128).toNat+128 * v) * 128 ^ i=u+(x % 128).toNat * 128 ^ i+v * 128 ^ (i+1):=by
          rw [Nat.add_mul,Nat.pow_succ,Nat.mul_comm (128 ^ i) 128,← Nat.mul_assoc,Nat.mul_comm v 128]; omega
        have ev:vint ((x % 128).toNat+128 * v)=x :: vint v:=by
          rw [zx6 (by omega),ed,em]
          congr 1; omega
        refine ⟨(x % 128).toNat+128 * v,rest,by rw [ev,e1]; rfl,by rw [es]; exact e2,?_,by rw [es]; exact e4,fun _=>by omega⟩
        rw [ev,List.length_cons,e3]; push_cast; omega
      · rw [if_neg hc] at h
        by_cases hz:x=0∧0 < i
        · rw [if_pos hz] at h; cases h
        · rw [if_neg hz] at h
          cases h
          have hs:=sum_lt hu (a:=x.toNat) (by omega) hi (fun h=>by
            have:¬ 1 < x:=fun h'=>h9 ⟨h,h'⟩
            omega)
          have ev:vint x.toNat=[x]:=by rw [zx5 (by omega)]; congr 1; omega
          refine ⟨x.toNat,r,by rw [ev]; rfl,rfl,by rw [ev]; simp,hs,fun hi0=>?_⟩
          have:¬ x=0:=fun h'=>hz ⟨h',hi0⟩
          omega
theorem zig_unzig (v:Nat):zig (unzig v)=v:=by unfold zig unzig; split<;>split<;>omega
theorem pv_one {c:List Int} (hb:∀ x∈c,byteR x) (h:(pv 0 0 c).2.2=0):∃ rest,c=vint (zig (pv 0 0 c).1)++rest∧(pv 0 0 c).2.1=((vint (zig (pv 0 0 c).1)).length:Int)∧R64 (pv 0 0 c).1:=by
  obtain ⟨v,rest,e1,e2,e3,e4,_⟩:=z146 c 0 0 (pv 0 0 c).1 (pv 0 0 c).2.1 hb (by omega) (by simp) (by rw [← h])
  simp only [Nat.pow_zero,Nat.mul_one,Nat.zero_add] at e2 e4
  have ez:zig (pv 0 0 c).1=v:=by rw [e2,zig_unzig]
  refine ⟨rest,by rw [ez]; exact e1,by rw [ez,e3]; simp,?_⟩
  rw [e2]; exact zx7 e4
section
variable {c:List Int} (hb:∀ x∈c,byteR x)
theorem rI_one (hb:∀ x∈c,byteR x) (h:(rI c).2.1=0):c=vint (zig (rI c).1)++(rI c).2.2∧R64 (rI c).1:=by
  obtain ⟨rest,e1,e2,e3⟩:=pv_one hb h
  refine ⟨?_,e3⟩
  unfold rI
  simp only [e2,Int.toNat_natCast]
  conv=>lhs; rw [e1]
  congr 1
  conv=>rhs; rw [e1]
  rw [show (pv 0 0 (vint (zig (pv 0 0 c).1)++rest)).1=(pv 0 0 c).1 by rw [← e1]]
  simp
theorem rB_one (hb:∀ x∈c,byteR x) (h:(rB c).2.1=0):c=vint (zig ((rB c).1.length:Int))++(rB c).1++(rB c).2.2∧(rB c).1.length≤c.length:=by
  unfold rB at h ⊢
  by_cases h0:(pv 0 0 c).2.2=0
  · rw [if_neg (by simpa using h0)] at h ⊢
    by_cases h1:(pv 0 0 c).1 < 0
    · rw [if_pos h1] at h; cases h
    · rw [if_neg h1] at h ⊢
      by_cases h2:(c.length:Int) - (pv 0 0 c).2.1 < (pv 0 0 c).1
      · rw [if_pos h2] at h; cases h
      · rw [if_neg h2]
        obtain ⟨a1,a2,_,_⟩:=pv_k hb
        have hI:=(rI_one hb (show (rI c).2.1=0 from h0)).1
        unfold rI at hI
        simp only at hI ⊢
        have hl:((c.drop (pv 0 0 c).2.1.toNat).take (pv 0 0 c).1.toNat).length=(pv 0 0 c).1.toNat:=by simp only [List.length_take,List.length_drop]; omega
        have hz:(((c.drop (pv 0 0 c).2.1.toNat).take (pv 0 0 c).1.toNat).length:Int)=(pv 0 0 c).1:=by omega
        rw [hz,List.append_assoc]
        refine ⟨?_,by omega⟩
        have:((pv 0 0 c).2.1+(pv 0 0 c).1).toNat=(pv 0 0 c).2.1.toNat+(pv 0 0 c).1.toNat:=by omega
        rw [this,← List.drop_drop,List.take_append_drop]
        exact hI
  · rw [if_pos h0] at h; exact absurd h h0
end
def four (s:Int):List Int:=[IntKind.u8.wrap s,IntKind.u8.wrap (shr .u32 s 8),IntKind.u8.wrap (shr .u32 s 16),IntKind.u8.wrap (shr .u32 s 24)]
theorem zv6 (s:Int):(four s).length=4:=rfl
theorem four_byte (s:Int):∀ b∈four s,byteR b:=by
  intro b hb
  simp only [four,List.mem_cons,List.mem_nil_iff,or_false] at hb
  rcases hb with rfl | rfl | rfl | rfl<;>exact z106 _
def zbm (b:List Int):List Int:=vint (zig (b.length:Int))++b++four (sumB b)
theorem F50z_eq {N:Nat} {l:List (List Int)} (hN:l.length < N) (hl:l.length≤1000000) (hf:l.flatten.length≤70368744177664):z51 N l=some l.flatten:=by
  have key:∃ r,z5n N l=some r∧(r.1≤r.2.length∧r.2.take r.1=l.flatten):=by
    unfold z5n
    refine zoi (fun q:z2q=>0≤q.t11∧q.t11≤(l.length:Int)∧0≤q.size∧q.size+(l.drop q.t11.toNat).flatten.length=l.flatten.length) (fun q=>((l.length:Int) - q.t11).toNat) _ ?_ N _ ⟨by simp,by simp,by simp,by simp⟩ (by simp; omega)
    rintro ⟨size,i⟩ nx ⟨g0,g1,g2,hq⟩ ih
    simp only at g0 g1 g2 hq ih ⊢
    by_cases hi:i < l.length
    · have hd:=z2a (default:List Int) g0 hi
      rw [hd,List.flatten_cons,List.length_append] at hq
      simp only [decide_eq_true hi,z3x g0 hi,cond_true]
      rw [z20 (n:=size+_) (by omega) (by omega),z20 (by omega) (by omega)]
      have:decide (size+((lget l i default).length:Int) < 0)=false:=by simp; omega
      simp only [this,cond_false]
      exact ih ⟨_,i+1⟩ ⟨by simp; omega,by simp; omega,by simp; omega,by simp only; omega⟩ (by simp; omega)
    · have:decide (i < (l.length:Int))=false:=by simpa using hi
      simp only [this,cond_false]
      rw [List.drop_eq_nil_of_le (by omega)] at hq
      simp only [List.flatten_nil,List.length_nil] at hq
      have h53:∃ g,z7d N size=some (0,g):=by
        unfold z7d
        have h0:decide (size < 0)=false:=by simp; omega
        simp only [h0,cond_false,Int.sub_zero]
        rw [z20 (by omega) (by omega)]
        by_cases hs:0 < size
        · have:mkB size 1=true:=by simp [mkB]; omega
          simp only [decide_eq_true hs,cond_true,this]
          rw [ztp (Int.le_refl _) (Int.le_refl _) (by omega)]
          exact ⟨_,rfl⟩
        · have:decide (0 < size)=false:=by simpa using hs
          simp only [this,cond_false]
          exact ⟨_,rfl⟩
      obtain ⟨g,hg⟩:=h53
      rw [hg,Option.bind_some]
      refine zoi (fun q:z2e=>0≤q.t27∧q.t27≤(l.length:Int)∧q.newslice≤q.g1.length∧q.g1.take q.newslice++(l.drop q.t27.toNat).flatten=l.flatten) (fun q=>((l.length:Int) - q.t27).toNat) _ ?_ N _ ⟨by simp,by simp,by simp,by simp⟩ (by simp; omega)
      rintro ⟨n,j,g1⟩ nx ⟨k0,k1,k2,hq⟩ ih
      simp only at k0 k1 k2 hq ih ⊢
      by_cases hj:j < l.length
      · have hd:=z2a (default:List Int) k0 hj
        rw [hd,List.flatten_cons] at hq
        have hlen:=congrArg List.length hq
        simp only [List.length_append,List.length_take,Nat.min_eq_left k2] at hlen
        simp only [decide_eq_true hj,z3x k0 hj,cond_true]
        rw [zd6 (by omega),Nat.ble_eq_true_of_le k2,z20 (by omega) (by omega)]
        simp only [Bool.and_self,cond_true]
        refine ih ⟨_,j+1,_⟩ ⟨by simp; omega,by simp; omega,by simp; omega,?_⟩ (by simp; omega)
        simp only
        rw [List.take_of_length_le (by simp; omega),List.append_assoc]
        exact hq
      · have:decide (j < (l.length:Int))=false:=by simpa using hj
        simp only [this,cond_false]
        rw [List.drop_eq_nil_of_le (by omega)] at hq
        exact ⟨_,rfl,k2,by simpa using hq⟩
  obtain ⟨r,h1,h2,h3⟩:=key
  unfold z51
  rw [h1,Option.bind_some,Nat.ble_eq_true_of_le h2,cond_true,h3]
section
variable {N:Nat} {b:List Int}
theorem F35_eq (hN:b.length+20≤N) (hb:∀ x∈b,byteR x):zgv N b=some (if 1048576 < b.length then ([],3) else (zbm b,0)):=by
  unfold zgv
  by_cases h:1048576 < b.length
  · have:decide (1048576 < (b.length:Int))=true:=by simp; omega
    rw [if_pos h,this]; rfl
  · have hd:decide (1048576 < (b.length:Int))=false:=by simp; omega
    have hr:R64 (b.length:Int):=⟨by omega,by omega⟩
    have hv:=zfh (zyt hr)
    rw [if_neg h,hd]
    simp only [cond_false]
    rw [F49_eq (by omega) hr,Option.bind_some,F14_eq (by simp; omega) (by simp) (by intro m hm; simp at hm; subst hm; exact ⟨by omega,by omega,hb⟩),Option.bind_some]
    rw [show [b].flatten=b by simp,show zla N (sumB b)=some (four (sumB b)) from rfl,Option.bind_some,F50z_eq (by simp; omega) (by simp) (by simp [zv6]; omega),Option.bind_some]
    simp [zbm]
def unB (b:List Int):List Int×Int×Int :=
  if (pv 0 0 b).2.2≠0 then ([],0,(pv 0 0 b).2.2) else
  if (pv 0 0 b).1 < 0 then ([],0,11) else
  if 1048576 < (pv 0 0 b).1 then ([],0,3) else
  if (b.length:Int) - (pv 0 0 b).2.1 < (pv 0 0 b).1+4 then ([],0,10) else
  if ((b.drop ((pv 0 0 b).2.1+(pv 0 0 b).1).toNat).take 4)=four (sumB ((b.drop (pv 0 0 b).2.1.toNat).take (pv 0 0 b).1.toNat)) then
    ((b.drop (pv 0 0 b).2.1.toNat).take (pv 0 0 b).1.toNat,(pv 0 0 b).2.1+(pv 0 0 b).1+4,0) else ([],0,12)
theorem F52_eq {c d:List Int} (hN:c.length < N) (hc:c.length≤9223372036854775000):za7 N c d=some (decide (c=d)):=by
  unfold za7
  by_cases hl:c.length=d.length
  · have:(!((c.length:Int)==(d.length:Int)))=false:=by simp [hl]
    rw [this]
    simp only [cond_false]
    refine z2i (fun q:z3v=>0≤q.t13∧q.t13≤(c.length:Int)∧(c.drop q.t13.toNat=d.drop q.t13.toNat↔c=d)) (fun q=>((c.length:Int) - q.t13).toNat) ?_ N _ ⟨by simp,by simp,by simp⟩ (by simp; omega)
    rintro ⟨i⟩ nx ⟨g0,g1,hq⟩ ih
    simp only at g0 g1 hq ih ⊢
    by_cases hi:i < c.length
    · have hi':i < d.length:=by omega
      rw [z2a (default:Int) g0 hi,z2a (default:Int) g0 hi'] at hq
      simp only [decide_eq_true hi,z3x g0 hi,z3x g0 hi',cond_true]
      by_cases he:lget c i default=lget d i default
      · have:(!(lget c i default==lget d i default))=false:=by simp only [he,beq_self_eq_true,Bool.not_true]
        rw [this,z20 (by omega) (by omega)]
        simp only [cond_false]
        exact ih ⟨i+1⟩ ⟨by simp; omega,by simp; omega,by simp only; rw [← hq,he]; simp⟩ (by simp; omega)
      · have:(!(lget c i default==lget d i default))=true:=by rw [beq_eq_false_iff_ne.2 he]; rfl
        rw [this]
        simp only [cond_true]
        have:c≠d:=fun e=>he (by rw [e])
        simp [this]
    · have:decide (i < (c.length:Int))=false:=by simpa using hi
      simp only [this,cond_false]
      rw [List.drop_eq_nil_of_le (by omega),List.drop_eq_nil_of_le (by omega)] at hq
      simp [hq.1 rfl]
  · have:(!((c.length:Int)==(d.length:Int)))=true:=by simp; omega
    rw [this]
    have:c≠d:=fun e=>hl (by rw [e])
    simp [this]
theorem cut_at {b:List Int} {i n:Int} (h0:0≤i) (hn:0≤n):cut b i (i+n)=(b.drop i.toNat).take n.toNat:=by
  simp only [cut]; congr 1; omega
theorem F39_eq (hN:b.length+20≤N) (hl:b.length≤70368744177664) (hb:∀ x∈b,byteR x):zev N b=some (unB b):=by
  obtain ⟨a1,a2,a3,_⟩:=pv_k hb
  have a4:=a3.1; have a5:=a3.2
  unfold zev unB
  rw [F45_eq (by omega) (by omega) hb,Option.bind_some]
  generalize hp:pv 0 0 b=p at a1 a2 a4 a5 ⊢
  by_cases he:p.2.2=0
  · rw [if_neg (by simpa using he), show (!(p.2.2 == 0)) = false by simp [he]]
    simp only [cond_false]
    by_cases hn:p.1 < 0
    · rw [if_pos hn,decide_eq_true hn]; rfl
    · rw [if_neg hn, decide_eq_false hn]
      simp only [cond_false]
      by_cases hm:1048576 < p.1
      · rw [if_pos hm,decide_eq_true hm]; rfl
      · rw [if_neg hm, decide_eq_false hm]
        simp only [cond_false]
        rw [z20 (n:=(b.length:Int) - p.2.1) (by omega) (by omega),z20 (n:=p.1+4) (by omega) (by omega)]
        by_cases hs:(b.length:Int) - p.2.1 < p.1+4
        · rw [if_pos hs,decide_eq_true hs]; rfl
        · rw [if_neg hs,decide_eq_false hs]
          simp only [cond_false]
          rw [z20 (n:=p.2.1+p.1) (by omega) (by omega),z20 (n:=p.2.1+p.1+4) (by omega) (by omega)]
          rw [ztp (l:=p.2.1+p.1) (by omega) (by omega) (by omega),ztp (l:=p.2.1) (by omega) (by omega) (by omega)]
          simp only [cond_true]
          rw [cut_at a1 (by omega),cut_at (i:=p.2.1+p.1) (n:=4) (by omega) (by omega)]
          have hsub:∀ x∈(b.drop p.2.1.toNat).take p.1.toNat,byteR x:=fun x hx=>hb x (List.mem_of_mem_drop (List.mem_of_mem_take hx))
          have hlen:((b.drop p.2.1.toNat).take p.1.toNat).length≤b.length:=by simp; omega
          rw [F14_eq (by simp; omega) (by simp) (by intro m hm; simp only [List.mem_singleton] at hm; subst hm; exact ⟨by omega,by omega,hsub⟩),Option.bind_some]
          rw [show [(b.drop p.2.1.toNat).take p.1.toNat].flatten=(b.drop p.2.1.toNat).take p.1.toNat by simp]
          rw [show zla N (sumB ((b.drop p.2.1.toNat).take p.1.toNat))=some (four (sumB ((b.drop p.2.1.toNat).take p.1.toNat))) from rfl,Option.bind_some]
          have h4:(List.take (4:Int).toNat (b.drop (p.2.1+p.1).toNat)).length≤4:=by simp; omega
          rw [F52_eq (by omega) (by omega),Option.bind_some]
          rw [show (4:Int).toNat=4 from rfl]
          by_cases hc:(b.drop (p.2.1+p.1).toNat).take 4=four (sumB ((b.drop p.2.1.toNat).take p.1.toNat))
          · rw [if_pos hc,decide_eq_true hc]
            simp only [Bool.not_true,cond_false]
            rw [zyv (by omega),Option.bind_some]
          · rw [if_neg hc,decide_eq_false hc]; rfl
  · rw [if_pos he,show (!(p.2.2==0))=true by simpa using he]; rfl
end
def put1 (s:Int×List Int) (x:List Int):Int×List Int:=if s.2.length+x.length≤1048576 then (s.1,s.2++x) else (if s.1=0 then 3 else s.1,s.2)
def wr (e:Int) (w:List Int) (cs:List (List Int)):Int×Bool×List Int:=((cs.foldl put1 (e,w)).1,true,(cs.foldl put1 (e,w)).2)
theorem put1_len {s:Int×List Int} (h:s.2.length≤1048576) (x:List Int):(put1 s x).2.length≤1048576:=by
  unfold put1; split
  · simp; omega
  · exact h
theorem z147:∀ (cs:List (List Int)) {s:Int×List Int},s.2.length≤1048576→(cs.foldl put1 s).2.length≤1048576
  | [],_,h=>h
  | x :: cs,s,h=>z147 cs (put1_len h x)
theorem z148:∀ (cs:List (List Int)) (e:Int) (w:List Int),w.length+cs.flatten.length≤1048576→cs.foldl put1 (e,w)=(e,w++cs.flatten)
  | [],e,w,_=>by simp
  | x :: cs, e, w, h => by
    rw [List.flatten_cons,List.length_append] at h
    rw [List.foldl_cons,put1,if_pos (show w.length+x.length≤1048576 by omega),z148 cs e (w++x) (by rw [List.length_append]; omega),List.flatten_cons,List.append_assoc]
theorem z149:∀ (cs:List (List Int)) {s:Int×List Int},s.1≠0→(cs.foldl put1 s).1=s.1
  | [],_,_=>rfl
  | x :: cs, s, h => by
    have h1:(put1 s x).1=s.1:=by unfold put1; split<;>simp [h]
    rw [List.foldl_cons,z149 cs (by rw [h1]; exact h),h1]
theorem z11w:∀ (cs:List (List Int)) (w:List Int),w.length≤1048576→1048576 < w.length+cs.flatten.length→(cs.foldl put1 (0,w)).1=3
  | [],w,h,h'=>by simp at h'; omega
  | x :: cs, w, h, h' => by
    rw [List.flatten_cons,List.length_append] at h'
    rw [List.foldl_cons,put1]
    split
    · rename_i hf
      exact z11w cs (w++x) (by simp; simpa using hf) (by rw [List.length_append]; omega)
    · rw [z149 cs (by simp)]; rfl
theorem z1v (e:Int) (w:List Int) (a b:List (List Int)):wr (wr e w a).1 (wr e w a).2.2 b=wr e w (a++b):=by
  simp only [wr,List.foldl_append]
theorem z21 {e:Int} {w:List Int} (h:w.length≤1048576) (cs:List (List Int)):(wr e w cs).2.2.length≤1048576:=z147 cs h
theorem z109 (N:Nat) (e:Int) {w:List Int} (x:List Int):(z2h N (zps w x).1 e (zps w x).2.1 (zps w x).2.2)=some (wr e w [x]):=by
  unfold z2h wr zps
  simp only [List.foldl_cons,List.foldl_nil,put1]
  by_cases h:w.length+x.length≤1048576
  · by_cases he:e=0
    · subst he; simp [h]
    · have:(e==0)=false:=by simpa using he
      simp [h,this]
  · by_cases he:e=0
    · subst he; simp [h]
    · have:(e==0)=false:=by simpa using he
      simp [h,this,he]
def pI (n:Int):List Int:=vint (zig n)
def pB (l:List Int):List Int:=vint (zig (l.length:Int))++l
def pT (s:List UInt8):List Int:=pB (zio s)
theorem ztr (s:List UInt8):(zio s).length=s.length:=by simp [zio]
theorem zx9 {N:Nat} (hN:11≤N) {l:List Int} (hl:l.length < N) (hl2:l.length≤1000000) (hr:∀ n∈l,R64 n) {e:Int} {w:List Int} (hw:w.length≤1048576):z5 N l e true w=some (wr e w (l.map pI)):=by
  unfold z5
  refine z2i (fun q:z2o=>0≤q.t8∧q.t8≤(l.length:Int)∧q.b1=true∧q.b12.length≤1048576∧wr q.b0 q.b12 ((l.drop q.t8.toNat).map pI)=wr e w (l.map pI)) (fun q=>((l.length:Int) - q.t8).toNat) ?_ N _ ⟨by simp,by simp,rfl,hw,by simp⟩ (by simp; omega)
  rintro ⟨i,b0,b1,b12⟩ nx ⟨g0,g1,rfl,g3,hq⟩ ih
  simp only at g0 g1 g3 hq ih ⊢
  by_cases hi:i < l.length
  · have hm:=hr _ (za9 (default:Int) g0 hi)
    rw [z2a (default:Int) g0 hi,List.map_cons,← List.singleton_append,← z1v] at hq
    simp only [decide_eq_true hi,z3x g0 hi,cond_true]
    rw [F31_eq hN hm g3,Option.bind_some,z109,Option.bind_some,z20 (by omega) (by omega)]
    exact ih ⟨i+1,_,_,_⟩ ⟨by simp; omega,by simp; omega,rfl,z21 g3 _,hq⟩ (by simp; omega)
  · have:decide (i < (l.length:Int))=false:=by simpa using hi
    simp only [this,cond_false]
    rw [List.drop_eq_nil_of_le (by omega)] at hq
    rw [← hq]; rfl
theorem zv7 {N:Nat} (hN:11≤N) {l:List Int} (hl:l.length < N) (hl2:l.length≤1000000) (hr:∀ n∈l,R64 n) {e:Int} {w:List Int} (hw:w.length≤1048576):zb N l e true w=some (wr e w (l.map pI)):=by
  unfold zb
  refine z2i (fun q:z2c=>0≤q.t8∧q.t8≤(l.length:Int)∧q.b1=true∧q.b12.length≤1048576∧wr q.b0 q.b12 ((l.drop q.t8.toNat).map pI)=wr e w (l.map pI)) (fun q=>((l.length:Int) - q.t8).toNat) ?_ N _ ⟨by simp,by simp,rfl,hw,by simp⟩ (by simp; omega)
  rintro ⟨i,b0,b1,b12⟩ nx ⟨g0,g1,rfl,g3,hq⟩ ih
  simp only at g0 g1 g3 hq ih ⊢
  by_cases hi:i < l.length
  · have hm:=hr _ (za9 (default:Int) g0 hi)
    rw [z2a (default:Int) g0 hi,List.map_cons,← List.singleton_append,← z1v] at hq
    simp only [decide_eq_true hi,z3x g0 hi,cond_true]
    rw [F31_eq hN hm g3,Option.bind_some,z109,Option.bind_some,z20 (by omega) (by omega)]
    exact ih ⟨i+1,_,_,_⟩ ⟨by simp; omega,by simp; omega,rfl,z21 g3 _,hq⟩ (by simp; omega)
  · have:decide (i < (l.length:Int))=false:=by simpa using hi
    simp only [this,cond_false]
    rw [List.drop_eq_nil_of_le (by omega)] at hq
    rw [← hq]; rfl
theorem text_eq {N:Nat} (hN:11≤N) {s:List UInt8} (hs:s.length≤1048576) {w:List Int} (hw:w.length≤1048576):z7c N s true w=some (zps w (pT s)):=by
  unfold z7c
  rw [F32_eq hN (by rw [ztr]; exact hs) hw]; rfl
theorem texts_eq {N:Nat} (hN:11≤N) {l:List (List UInt8)} (hl:l.length < N) (hl2:l.length≤1000000) (hr:∀ n∈l,n.length≤1048576) {e:Int} {w:List Int} (hw:w.length≤1048576):z4z N l e true w=some (wr e w (l.map pT)):=by
  unfold z4z
  refine z2i (fun q:z2d=>0≤q.t8∧q.t8≤(l.length:Int)∧q.b1=true∧q.b12.length≤1048576∧wr q.b0 q.b12 ((l.drop q.t8.toNat).map pT)=wr e w (l.map pT)) (fun q=>((l.length:Int) - q.t8).toNat) ?_ N _ ⟨by simp,by simp,rfl,hw,by simp⟩ (by simp; omega)
  rintro ⟨i,b0,b1,b12⟩ nx ⟨g0,g1,rfl,g3,hq⟩ ih
  simp only at g0 g1 g3 hq ih ⊢
  by_cases hi:i < l.length
  · have hm:=hr _ (za9 (default:(List UInt8)) g0 hi)
    rw [z2a (default:(List UInt8)) g0 hi,List.map_cons,← List.singleton_append,← z1v] at hq
    simp only [decide_eq_true hi,z3x g0 hi,cond_true]
    rw [text_eq hN hm g3,Option.bind_some,z109,Option.bind_some,z20 (by omega) (by omega)]
    exact ih ⟨i+1,_,_,_⟩ ⟨by simp; omega,by simp; omega,rfl,z21 g3 _,hq⟩ (by simp; omega)
  · have:decide (i < (l.length:Int))=false:=by simpa using hi
    simp only [this,cond_false]
    rw [List.drop_eq_nil_of_le (by omega)] at hq
    rw [← hq]; rfl
def MayOp (o:GOp):Prop:=(0≤o.Stamp.Time∧o.Stamp.Time≤1099511627776)∧(0≤o.Stamp.Site∧o.Stamp.Site < 8)∧(1≤o.Kind∧o.Kind≤3)∧(0≤o.Node∧o.Node≤1125899906842624)∧(0≤o.Parent∧o.Parent≤1125899906842624) ∧
  o.Name.length≤255∧o.Key.length≤255∧o.Value.length≤255
instance (o:GOp):Decidable (MayOp o):=by unfold MayOp; infer_instance
def opC (o:GOp):List (List Int):=[o.Stamp.Time].map pI++[o.Stamp.Site,o.Kind].map pI++[o.Node,o.Parent].map pI++[o.Name,o.Key,o.Value].map pT
def opB (o:GOp):List Int:=(opC o).flatten
theorem opw_eq {N:Nat} (hN:20≤N) {o:GOp} (ho:MayOp o) {e:Int} {w:List Int} (hw:w.length≤1048576):z3e N o e true w=some (wr e w (opC o)):=by
  obtain ⟨h1,h2,h3,h4,h5,h6,h7,h8⟩:=ho
  unfold z3e
  rw [zx9 (by omega) (by simp; omega) (by simp) (by intro n hn; simp at hn; subst hn; exact ⟨by omega,by omega⟩) hw,Option.bind_some]
  rw [show (wr e w (List.map pI [o.Stamp.Time])).2.1=true from rfl,zv7 (by omega) (by simp; omega) (by simp) (by intro n hn; simp at hn; rcases hn with rfl | rfl<;>exact ⟨by omega,by omega⟩) (z21 hw _),z1v,Option.bind_some]
  rw [show (wr e w (List.map pI [o.Stamp.Time]++List.map pI [o.Stamp.Site,o.Kind])).2.1=true from rfl,zx9 (by omega) (by simp; omega) (by simp) (by intro n hn; simp at hn; rcases hn with rfl | rfl<;>exact ⟨by omega,by omega⟩) (z21 hw _),z1v,Option.bind_some]
  rw [show (wr e w (List.map pI [o.Stamp.Time]++List.map pI [o.Stamp.Site,o.Kind]++List.map pI [o.Node,o.Parent])).2.1=true from rfl,texts_eq (by omega) (by simp; omega) (by simp) (by intro n hn; simp at hn; rcases hn with rfl | rfl | rfl<;>omega) (z21 hw _),z1v,Option.bind_some]
  rfl
section
variable {N:Nat}
theorem count1 (hN:5≤N) (a:Int):z14 N [a]=some (decide (0≤a∧a≤1099511627776)):=by
  obtain ⟨k,rfl⟩:∃ k,N=k+5:=⟨N - 5,by omega⟩
  have:z14 (k+5) [a]=(bif (decide (a < 0)) || (decide (1099511627776 < a)) then some false else some true):=by kernel_rfl
  rw [this]
  by_cases h1:a < 0<;>by_cases h2:1099511627776 < a<;>simp [h1,h2]<;>omega
theorem site1 (hN:5≤N) (a:Int):z1w N [a]=some (decide (0≤a∧a < 8)):=by
  obtain ⟨k,rfl⟩:∃ k,N=k+5:=⟨N - 5,by omega⟩
  have:z1w (k+5) [a]=(bif (decide (a < 0)) || (decide (8≤a)) then some false else some true):=by kernel_rfl
  rw [this]
  by_cases h1:a < 0<;>by_cases h2:8≤a<;>simp [h1,h2]<;>omega
theorem node2 (hN:5≤N) (a b:Int):zid N [a,b]=some (decide ((0≤a∧a≤1125899906842624)∧(0≤b∧b≤1125899906842624))):=by
  obtain ⟨k,rfl⟩:∃ k,N=k+5:=⟨N - 5,by omega⟩
  have:zid (k+5) [a,b]=(bif (decide (a < 0)) || (decide (1125899906842624 < a)) then some false else bif (decide (b < 0)) || (decide (1125899906842624 < b)) then some false else some true):=by kernel_rfl
  rw [this]
  by_cases h1:a < 0<;>by_cases h2:1125899906842624 < a<;>by_cases h3:b < 0<;>by_cases h4:1125899906842624 < b<;>simp [h1,h2,h3,h4]<;>omega
theorem text3 (hN:6≤N) (a b c:List UInt8):zie N [a,b,c]=some (decide (a.length≤255∧b.length≤255∧c.length≤255)):=by
  obtain ⟨k,rfl⟩:∃ k,N=k+6:=⟨N - 6,by omega⟩
  have:zie (k+6) [a,b,c]=(bif decide (255 < (a.length:Int)) then some false else bif decide (255 < (b.length:Int)) then some false else bif decide (255 < (c.length:Int)) then some false else some true):=by kernel_rfl
  rw [this]
  by_cases h1:255 < (a.length:Int)<;>by_cases h2:255 < (b.length:Int)<;>by_cases h3:255 < (c.length:Int)<;>simp [h1,h2,h3]<;>omega
theorem z14a (hN:10≤N) (o:GOp):zau N o=some (decide (MayOp o)):=by
  unfold zau
  simp only [count1 (N:=N) (by omega),site1 (N:=N) (by omega),node2 (N:=N) (by omega),text3 (N:=N) (by omega),Option.bind_some]
  unfold MayOp
  by_cases h1:(0≤o.Stamp.Time∧o.Stamp.Time≤1099511627776)<;>by_cases h2:(0≤o.Stamp.Site∧o.Stamp.Site < 8)<;>by_cases h3:1≤o.Kind<;>by_cases h4:o.Kind≤3 <;>
    by_cases h5:((0≤o.Node∧o.Node≤1125899906842624)∧(0≤o.Parent∧o.Parent≤1125899906842624))<;>simp [h1,h2,h3,h4,h5]<;>omega
theorem wr_fit {e:Int} {w:List Int} {cs:List (List Int)} (h:w.length+cs.flatten.length≤1048576):wr e w cs=(e,true,w++cs.flatten):=by
  unfold wr; rw [z148 cs e w h]
end
def cnt (n:Int):Prop:=0≤n∧n≤1099511627776
instance (n:Int):Decidable (cnt n):=by unfold cnt; infer_instance
def sit (n:Int):Prop:=0≤n∧n < 8
instance (n:Int):Decidable (sit n):=by unfold sit; infer_instance
def zeu (v:Vector Int 8):Prop:=∀ n∈v.toList,cnt n
instance (v:Vector Int 8):Decidable (zeu v):=by unfold zeu; infer_instance
def epOk (e:za) (j:Nat):Prop:=(0≤vget e.States j default∧vget e.States j default≤3)∧(-1≤vget e.Sponsor j default∧vget e.Sponsor j default < 8)
instance (e:za) (j:Nat):Decidable (epOk e j):=by unfold epOk; infer_instance
def MayEp (e:za):Prop:=cnt e.Number∧zeu e.Seals∧∀ j,j < 8→epOk e j
def MayPt (p:GPart):Prop:=cnt p.Snap∧(1≤p.Many∧p.Many≤4096)∧(0≤p.Index∧p.Index < p.Many)∧p.Data.length≤16384
instance (p:GPart):Decidable (MayPt p):=by unfold MayPt; infer_instance
def zed (l:List GOp):Prop:=1≤l.length∧l.length≤4096∧∀ o∈l,MayOp o
instance (l:List GOp):Decidable (zed l):=by unfold zed; infer_instance
theorem z4l {α:Type} (c:Bool) (x y:α):(bif c then some x else some y)=some (bif c then x else y):=by cases c<;>rfl
theorem z9h (c x y:Bool):(c&&(bif c then x else y))=(c&&x):=by cases c<;>rfl
def opq (a b:GOp):Bool:=(((a.Stamp.Time==b.Stamp.Time)&&(a.Stamp.Site==b.Stamp.Site))&&((a.Kind==b.Kind)&&((a.Node==b.Node)&&((a.Parent==b.Parent)&&((a.Name==b.Name)&&((a.Key==b.Key)&&(a.Value==b.Value)))))))
theorem opq_iff (a b:GOp):opq a b=true↔a=b:=by
  obtain ⟨⟨a1,a2⟩,a3,a4,a5,a6,a7,a8⟩:=a
  obtain ⟨⟨b1,b2⟩,b3,b4,b5,b6,b7,b8⟩:=b
  simp [opq,and_assoc]
def opsB (a b:List GOp):Bool:=((a.length:Int)==(b.length:Int))&&((a.zip b).all fun p=>opq p.1 p.2)
theorem z14b (a b:List GOp):opsB a b=true↔a=b:=by
  unfold opsB
  by_cases h:a.length=b.length
  · simp only [h,beq_self_eq_true,Bool.true_and]
    exact zr5 opq_iff a b h
  · have:((a.length:Int)==(b.length:Int))=false:=by simp; omega
    simp only [this,Bool.false_and,Bool.false_eq_true,false_iff]
    exact fun e=>h (by rw [e])
section
variable {N:Nat}
theorem zxa {a b:List GOp} (hN:a.length < N) (ha:a.length≤9223372036854775807):z9l N a b=some (opsB a b):=by
  unfold z9l opsB
  by_cases hl:a.length=b.length
  · simp only [hl,beq_self_eq_true,Bool.not_true,cond_false,Bool.true_and]
    refine z2i (fun q:z4u=>0≤q.t13∧q.t13≤(a.length:Int)∧(((a.drop q.t13.toNat).zip (b.drop q.t13.toNat)).all fun p=>opq p.1 p.2)=((a.zip b).all fun p=>opq p.1 p.2)) (fun q=>((a.length:Int) - q.t13).toNat) ?_ N _ ⟨by simp,by simp,by simp⟩ (by simp; omega)
    rintro ⟨i⟩ nx ⟨g0,g1,hq⟩ ih
    simp only at g0 g1 hq ih ⊢
    by_cases hi:i < b.length
    · have hi':i < a.length:=by omega
      rw [z2a (default:GOp) g0 hi,z2a (default:GOp) g0 hi',List.zip_cons_cons,List.all_cons] at hq
      simp only [decide_eq_true hi,z3x g0 hi,cond_true]
      change (bif !(opq (lget a i default) (lget b i default)) then _ else _)=_
      cases ho:opq (lget a i default) (lget b i default) with
      | true =>
        rw [ho,Bool.true_and] at hq
        simp only [Bool.not_true,cond_false]
        rw [z20 (by omega) (by omega)]
        exact ih ⟨i+1⟩ ⟨by simp; omega,by simp; omega,hq⟩ (by simp; omega)
      | false=>rw [ho,Bool.false_and] at hq; rw [← hq]; rfl
    · have:decide (i < (b.length:Int))=false:=by simpa using hi
      simp only [this,cond_false]
      rw [List.drop_eq_nil_of_le (by omega)] at hq
      rw [← hq]; rfl
  · have:((a.length:Int)==(b.length:Int))=false:=by simp; omega
    simp only [this,Bool.not_false,cond_true,Bool.false_and]
theorem z11x {a b:List GOp} (hN:a.length < N) (ha:a.length≤9223372036854775807):zbe N a b=some (opsB a b):=by
  unfold zbe opsB
  by_cases hl:a.length=b.length
  · simp only [hl,beq_self_eq_true,Bool.not_true,cond_false,Bool.true_and]
    refine z2i (fun q:z78=>0≤q.i∧q.i≤(a.length:Int)∧(((a.drop q.i.toNat).zip (b.drop q.i.toNat)).all fun p=>opq p.1 p.2)=((a.zip b).all fun p=>opq p.1 p.2)) (fun q=>((a.length:Int) - q.i).toNat) ?_ N _ ⟨by simp,by simp,by simp⟩ (by simp; omega)
    rintro ⟨i⟩ nx ⟨g0,g1,hq⟩ ih
    simp only at g0 g1 hq ih ⊢
    by_cases hi:i < b.length
    · have hi':i < a.length:=by omega
      rw [z2a (default:GOp) g0 hi,z2a (default:GOp) g0 hi',List.zip_cons_cons,List.all_cons] at hq
      simp only [decide_eq_true hi,z3x g0 hi,cond_true]
      change (bif !(opq (lget a i default) (lget b i default)) then _ else _)=_
      cases ho:opq (lget a i default) (lget b i default) with
      | true =>
        rw [ho,Bool.true_and] at hq
        simp only [Bool.not_true,cond_false]
        rw [z20 (by omega) (by omega)]
        exact ih ⟨i+1⟩ ⟨by simp; omega,by simp; omega,hq⟩ (by simp; omega)
      | false=>rw [ho,Bool.false_and] at hq; rw [← hq]; rfl
    · have:decide (i < (b.length:Int))=false:=by simpa using hi
      simp only [this,cond_false]
      rw [List.drop_eq_nil_of_le (by omega)] at hq
      rw [← hq]; rfl
  · have:((a.length:Int)==(b.length:Int))=false:=by simp; omega
    simp only [this,Bool.not_false,cond_true,Bool.false_and]
def epq (a b:za):Bool:=((a.Number==b.Number)&&((vbeq beq3 a.States b.States)&&((vbeq beq2 a.Seals b.Seals)&&(vbeq beq3 a.Sponsor b.Sponsor))))
theorem z10a (x y:Int):beq2 x y=true↔x=y:=by simp [beq2]
theorem beq3_iff (x y:Int):beq3 x y=true↔x=y:=by simp [beq3]
theorem epq_iff (a b:za):epq a b=true↔a=b:=by
  obtain ⟨a1,a2,a3,a4⟩:=a
  obtain ⟨b1,b2,b3,b4⟩:=b
  simp only [epq,Bool.and_eq_true,beq_iff_eq,zv5 z10a,zv5 beq3_iff,za.mk.injEq]
def byt (l:List Int):Prop:=∀ x∈l,byteR x
def ptq (a b:GPart):Bool:=((((a.Snap==b.Snap)&&(a.Index==b.Index))&&(a.Many==b.Many))&&((strI a.Data)==(strI b.Data)))
theorem strI_inj {a b:List Int} (ha:byt a) (hb:byt b):strI a=strI b↔a=b :=
  ⟨fun h=>by rw [← zx8 ha,← zx8 hb,h],fun h=>by rw [h]⟩
theorem ptq_iff {a b:GPart} (ha:byt a.Data) (hb:byt b.Data):ptq a b=true↔a=b:=by
  obtain ⟨a1,a2,a3,a4⟩:=a
  obtain ⟨b1,b2,b3,b4⟩:=b
  simp only [ptq,Bool.and_eq_true,beq_iff_eq,strI_inj ha hb,GPart.mk.injEq,and_assoc]
def sameE (a b:z9):Bool :=
  ((((((((((((((a.Kind==b.Kind)&&(a.Session==b.Session))&&(a.Request==b.Request))&&opq a.Op b.Op)&&(a.Origin==b.Origin))&&(a.Seq==b.Seq))&&opsB a.Ops b.Ops)&&epq a.Epoch b.Epoch)&&(a.From==b.From))&&(vbeq beq2 a.Vector_ b.Vector_))&&(a.Clock==b.Clock))&&ptq a.Part b.Part)&&(a.Site==b.Site))&&(a.Sponsor==b.Sponsor))&&(a.Length==b.Length)
theorem zsi {a b:z9} (ha:byt a.Part.Data) (hb:byt b.Part.Data):sameE a b=true↔a=b:=by
  obtain ⟨a1,a2,a3,a4,a5,a6,a7,a8,a9,a10,a11,a12,a13,a14,a15⟩:=a
  obtain ⟨b1,b2,b3,b4,b5,b6,b7,b8,b9,b10,b11,b12,b13,b14,b15⟩:=b
  simp only [sameE,Bool.and_eq_true,beq_iff_eq,opq_iff,z14b,epq_iff,zv5 z10a,ptq_iff (a:=a12) (b:=b12) ha hb,z9.mk.injEq,and_assoc]
theorem zoo {a b:z9} (hN:a.Ops.length < N) (ha:a.Ops.length≤9223372036854775807):zk N a b=some (sameE a b):=by
  unfold zk z9m
  rw [zxa hN ha]
  simp only [z4l,Option.bind_some,z9h]
  rfl
theorem zop {a b:z9} (hN:a.Ops.length < N) (ha:a.Ops.length≤9223372036854775807):z9j N a b=some (sameE a b):=by
  unfold z9j zai
  rw [z11x hN ha]
  simp only [z4l,Option.bind_some,z9h]
  rfl
end
theorem bdec {b:Bool} {P:Prop} [inst:Decidable P] (h:b=true↔P):b=decide P:=by
  by_cases hp:P
  · rw [decide_eq_true hp]; exact h.2 hp
  · rw [decide_eq_false hp]
    cases b with
    | false=>rfl
    | true=>exact absurd (h.1 rfl) hp
instance (e:za):Decidable (MayEp e):=by unfold MayEp; infer_instance
section
variable {N:Nat}
theorem zpt {l:List Int} (hN:l.length < N) (hl:l.length≤1000000):z14 N l=some (l.all fun n=>decide (cnt n)):=by
  unfold z14
  refine z2i (fun q:z8o=>0≤q.t7∧q.t7≤(l.length:Int)∧((l.drop q.t7.toNat).all fun n=>decide (cnt n))=l.all fun n=>decide (cnt n)) (fun q=>((l.length:Int) - q.t7).toNat) ?_ N _ ⟨by simp,by simp,by simp⟩ (by simp; omega)
  rintro ⟨i⟩ nx ⟨g0,g1,hq⟩ ih
  simp only at g0 g1 hq ih ⊢
  by_cases hi:i < l.length
  · rw [z2a (default:Int) g0 hi,List.all_cons] at hq
    simp only [decide_eq_true hi,z3x g0 hi,cond_true]
    generalize lget l i default=n at hq ⊢
    by_cases hn:cnt n
    · have h1:decide (n < 0)=false:=by simpa using hn.1
      have h2:decide (1099511627776 < n)=false:=by simpa using hn.2
      rw [decide_eq_true hn,Bool.true_and] at hq
      simp only [h1,h2,Bool.or_self,cond_false]
      rw [z20 (by omega) (by omega)]
      exact ih ⟨i+1⟩ ⟨by simp; omega,by simp; omega,hq⟩ (by simp; omega)
    · have h1:(decide (n < 0) || decide (1099511627776 < n))=true:=by unfold cnt at hn; simp; omega
      rw [decide_eq_false hn,Bool.false_and] at hq
      rw [h1,← hq]; rfl
  · have:decide (i < (l.length:Int))=false:=by simpa using hi
    simp only [this,cond_false]
    rw [List.drop_eq_nil_of_le (by omega)] at hq
    rw [← hq]; rfl
theorem siteL {l:List Int} (hN:l.length < N) (hl:l.length≤1000000):z1w N l=some (l.all fun n=>decide (sit n)):=by
  unfold z1w
  refine z2i (fun q:z9q=>0≤q.t7∧q.t7≤(l.length:Int)∧((l.drop q.t7.toNat).all fun n=>decide (sit n))=l.all fun n=>decide (sit n)) (fun q=>((l.length:Int) - q.t7).toNat) ?_ N _ ⟨by simp,by simp,by simp⟩ (by simp; omega)
  rintro ⟨i⟩ nx ⟨g0,g1,hq⟩ ih
  simp only at g0 g1 hq ih ⊢
  by_cases hi:i < l.length
  · rw [z2a (default:Int) g0 hi,List.all_cons] at hq
    simp only [decide_eq_true hi,z3x g0 hi,cond_true]
    generalize lget l i default=n at hq ⊢
    by_cases hn:sit n
    · have h1:decide (n < 0)=false:=by simpa using hn.1
      have h2:decide (8≤n)=false:=by simpa using hn.2
      rw [decide_eq_true hn,Bool.true_and] at hq
      simp only [h1,h2,Bool.or_self,cond_false]
      rw [z20 (by omega) (by omega)]
      exact ih ⟨i+1⟩ ⟨by simp; omega,by simp; omega,hq⟩ (by simp; omega)
    · have h1:(decide (n < 0) || decide (8≤n))=true:=by unfold sit at hn; simp; omega
      rw [decide_eq_false hn,Bool.false_and] at hq
      rw [h1,← hq]; rfl
  · have:decide (i < (l.length:Int))=false:=by simpa using hi
    simp only [this,cond_false]
    rw [List.drop_eq_nil_of_le (by omega)] at hq
    rw [← hq]; rfl
theorem zts (v:Vector Int 8):(v.toList.all fun n=>decide (cnt n))=decide (zeu v):=by
  exact bdec (by unfold zeu; simp only [List.all_eq_true,decide_eq_true_eq])
theorem index_eq {l:List GOp} (hN:l.length+12≤N) (hl:l.length≤9223372036854775807):z3s N l=some (!(l.all fun o=>decide (MayOp o))):=by
  unfold z3s
  have key:∃ r,z4v N l=some r∧decide (0≤r)=!(l.all fun o=>decide (MayOp o)):=by
    unfold z4v
    refine zoi (fun q:z2b=>0≤q.t8∧q.t8≤(l.length:Int)∧((l.drop q.t8.toNat).all fun n=>decide (MayOp n))=l.all fun n=>decide (MayOp n)) (fun q=>((l.length:Int) - q.t8).toNat) _ ?_ N _ ⟨by simp,by simp,by simp⟩ (by simp; omega)
    rintro ⟨i⟩ nx ⟨g0,g1,hq⟩ ih
    simp only at g0 g1 hq ih ⊢
    by_cases hi:i < l.length
    · rw [z2a (default:GOp) g0 hi,List.all_cons] at hq
      simp only [decide_eq_true hi,z3x g0 hi,cond_true]
      have h1:zbq N (⟨(lget l i default).Stamp,(lget l i default).Kind,(lget l i default).Node,(lget l i default).Parent,(lget l i default).Name,(lget l i default).Key,(lget l i default).Value⟩:GOp)=some (!decide (MayOp (lget l i default))):=by
        unfold zbq
        rw [z14a (by omega)]; rfl
      rw [h1,Option.bind_some]
      by_cases ho:MayOp (lget l i default)
      · rw [decide_eq_true ho,Bool.true_and] at hq
        rw [decide_eq_true ho]
        simp only [Bool.not_true,cond_false]
        rw [z20 (by omega) (by omega)]
        exact ih ⟨i+1⟩ ⟨by simp; omega,by simp; omega,hq⟩ (by simp; omega)
      · rw [decide_eq_false ho,Bool.false_and] at hq
        rw [decide_eq_false ho]
        exact ⟨i,rfl,by rw [← hq]; simpa using g0⟩
    · have:decide (i < (l.length:Int))=false:=by simpa using hi
      simp only [this,cond_false]
      rw [List.drop_eq_nil_of_le (by omega)] at hq
      exact ⟨-1,rfl,by rw [← hq]; rfl⟩
  obtain ⟨r,h1,h2⟩:=key
  rw [h1,Option.bind_some,h2]
theorem z11y {l:List GOp} (hN:l.length+12≤N) (hl:l.length≤9223372036854775807):z4j N l 1=some (decide (zed l)):=by
  unfold z4j
  rw [index_eq hN hl]
  simp only [z4l,Option.bind_some]
  refine congrArg some (bdec ?_)
  unfold zed
  by_cases h1:(1:Int)≤l.length
  · by_cases h2:(l.length:Int)≤4096
    · simp only [decide_eq_true h1,decide_eq_true h2,Bool.and_self,cond_true,Bool.true_and,Bool.not_not,List.all_eq_true,decide_eq_true_eq]
      exact ⟨fun h=>⟨by omega,by omega,h⟩,fun h=>h.2.2⟩
    · simp only [decide_eq_false h2,Bool.and_false,Bool.false_and,Bool.false_eq_true,false_iff]
      exact fun h=>h2 (by omega)
  · simp only [decide_eq_false h1,Bool.false_and,Bool.false_eq_true,false_iff]
    exact fun h=>h1 (by omega)
theorem zxb (hN:20≤N) (e:za):z38 N e=some (decide (MayEp e)):=by
  unfold z38
  rw [zpt (by simp; omega) (by simp),Option.bind_some]
  by_cases hn:cnt e.Number
  · simp only [List.all_cons,List.all_nil,Bool.and_true,decide_eq_true hn,cond_true,Bool.true_and]
    rw [zpt (by simp; omega) (by simp),Option.bind_some,zts]
    refine z2i (fun q:z4w=>0≤q.t14∧q.t14≤8∧(q.ok=true↔zeu e.Seals∧∀ j,j < q.t14.toNat→epOk e j)) (fun q=>(8 - q.t14).toNat) ?_ N _ ⟨by simp,by simp,by simp⟩ (by simp; omega)
    rintro ⟨ok,i⟩ nx ⟨g0,g1,hq⟩ ih
    simp only at g0 g1 hq ih ⊢
    by_cases hi:i < 8
    · simp only [decide_eq_true hi,z3x g0 hi,Bool.or_true,cond_true]
      rw [z20 (by omega) (by omega)]
      refine ih ⟨_,i+1⟩ ⟨by simp; omega,by simp; omega,?_⟩ (by simp; omega)
      simp only
      rw [show (i+1).toNat=i.toNat+1 by omega]
      have this:(((0≤vget e.States i.toNat default∧vget e.States i.toNat default≤3)∧-1≤vget e.Sponsor i.toNat default)∧vget e.Sponsor i.toNat default < 8)↔epOk e i.toNat:=by unfold epOk; rw [and_assoc]
      simp only [Bool.and_eq_true,decide_eq_true_eq,hq]
      constructor
      · rintro ⟨⟨⟨⟨⟨h0,h1⟩,h2⟩,h3⟩,h4⟩,h5⟩
        refine ⟨h0,fun j hj=>?_⟩
        rcases Nat.lt_succ_iff_lt_or_eq.1 hj with h | rfl
        · exact h1 j h
        · exact this.1 ⟨⟨⟨h2,h3⟩,h4⟩,h5⟩
      · rintro ⟨h0,h1⟩
        obtain ⟨⟨⟨h2,h3⟩,h4⟩,h5⟩:=this.2 (h1 _ (Nat.lt_succ_self _))
        exact ⟨⟨⟨⟨⟨h0,fun j hj=>h1 j (Nat.lt_succ_of_lt hj)⟩,h2⟩,h3⟩,h4⟩,h5⟩
    · have:decide (i < (8:Int))=false:=by simpa using hi
      simp only [this,cond_false]
      refine congrArg some (bdec ?_)
      rw [hq,show i.toNat=8 by omega]
      unfold MayEp
      exact ⟨fun h=>⟨hn,h⟩,fun h=>h.2⟩
  · have hno:¬ MayEp e:=fun h=>hn h.1
    simp only [List.all_cons,List.all_nil,Bool.and_true,decide_eq_false hn,cond_false,decide_eq_false hno]
    refine z2i (fun q:z4a=>0≤q.t14∧q.t14≤8∧q.ok=false) (fun q=>(8 - q.t14).toNat) ?_ N _ ⟨by simp,by simp,rfl⟩ (by simp; omega)
    rintro ⟨ok,i⟩ nx ⟨g0,g1,rfl⟩ ih
    simp only at g0 g1 ih ⊢
    by_cases hi:i < 8
    · simp only [decide_eq_true hi,z3x g0 hi,Bool.or_true,cond_true,Bool.false_and]
      rw [z20 (by omega) (by omega)]
      exact ih ⟨_,i+1⟩ ⟨by simp; omega,by simp; omega,rfl⟩ (by simp; omega)
    · have:decide (i < (8:Int))=false:=by simpa using hi
      simp only [this,cond_false]
theorem zyw (hN:20≤N) (p:GPart):z25 N p=some (decide (MayPt p)):=by
  unfold z25
  rw [zpt (by simp; omega) (by simp),Option.bind_some]
  refine congrArg some (bdec ?_)
  unfold MayPt
  simp only [List.all_cons,List.all_nil,Bool.and_true,Bool.and_eq_true,decide_eq_true_eq]
  constructor
  · rintro ⟨⟨⟨⟨⟨h1,h2⟩,h3⟩,h4⟩,h5⟩,h6⟩; exact ⟨h1,⟨h2,h3⟩,⟨h4,h5⟩,by omega⟩
  · rintro ⟨h1,⟨h2,h3⟩,⟨h4,h5⟩,h6⟩; exact ⟨⟨⟨⟨⟨h1,h2⟩,h3⟩,h4⟩,h5⟩,by omega⟩
end
def zOp:GOp:=⟨(⟨0,0⟩:z1a),0,0,0,[],[],[]⟩
def zV:Vector Int 8:=Vector.replicate 8 (default:Int)
def zEp:za:=⟨0,zV,zV,zV⟩
def zPt:GPart:=⟨0,0,0,[]⟩
def bareE (e:z9):z9 :=
  bif e.Kind==1 then ⟨e.Kind,e.Session,e.Request,e.Op,0,0,[],zEp,0,zV,0,zPt,0,0,0⟩ else
  bif e.Kind==2 then ⟨e.Kind,0,0,zOp,e.Origin,e.Seq,e.Ops,zEp,0,zV,0,zPt,0,0,0⟩ else
  bif e.Kind==3 then ⟨e.Kind,0,0,zOp,0,0,[],e.Epoch,0,zV,0,zPt,0,0,0⟩ else
  bif e.Kind==4 then ⟨e.Kind,0,0,zOp,0,e.Seq,[],zEp,e.From,e.Vector_,e.Clock,zPt,0,0,0⟩ else
  bif e.Kind==5 then ⟨e.Kind,0,0,zOp,0,0,[],zEp,0,zV,0,e.Part,0,0,0⟩ else
  bif e.Kind==6 then ⟨e.Kind,0,0,zOp,0,0,[],zEp,0,zV,0,zPt,e.Site,e.Sponsor,0⟩ else
  bif e.Kind==7 then ⟨e.Kind,0,0,zOp,0,0,[],zEp,0,zV,0,zPt,e.Site,0,0⟩ else
  bif e.Kind==8 then ⟨e.Kind,0,0,zOp,0,0,[],zEp,0,zV,0,zPt,e.Site,0,e.Length⟩ else
  ⟨e.Kind,0,0,zOp,0,0,[],zEp,0,zV,0,zPt,0,0,0⟩
def condE (e:z9):Bool :=
  bif e.Kind==1 then decide (cnt e.Session)&&decide (0 < e.Session)&&decide (cnt e.Request)&&decide (0 < e.Request)&&decide (MayOp e.Op) else
  bif e.Kind==2 then decide (sit e.Origin)&&decide (cnt e.Seq)&&decide (zed e.Ops) else
  bif e.Kind==3 then decide (MayEp e.Epoch) else
  bif e.Kind==4 then decide (cnt e.Seq)&&decide (sit e.From)&&decide (zeu e.Vector_)&&decide (cnt e.Clock) else
  bif e.Kind==5 then decide (MayPt e.Part) else
  decide (sit e.Site)&&decide (sit e.Sponsor)&&decide (cnt e.Length)
def kindE (e:z9):Prop:=0≤e.Kind∧e.Kind≤8
def MayEn (e:z9):Prop:=kindE e∧e=bareE e∧condE e=true
def Verd (P:Prop) (o:Option Int):Prop:=(P∧o=some 0)∨(¬ P∧o=some 40)
theorem verd_of {P:Prop} {b:Bool} (h:b=true↔P) (N:Nat):Verd P ((zv N b).bind fun r=>some r):=by
  cases b with
  | true=>exact .inl ⟨h.1 rfl,rfl⟩
  | false=>exact .inr ⟨fun hp=>(by cases h.2 hp),rfl⟩
theorem z14c {e:z9} (h:byt e.Part.Data):byt (bareE e).Part.Data:=by
  unfold bareE
  cases (e.Kind==1)<;>cases (e.Kind==2)<;>cases (e.Kind==3)<;>cases (e.Kind==4)<;>cases (e.Kind==5)<;>cases (e.Kind==6)<;>cases (e.Kind==7)<;>cases (e.Kind==8)<;>first | exact h | (intro x hx; cases hx)
theorem z14d (e:z9):(bareE e).Ops.length≤e.Ops.length:=by
  unfold bareE
  cases (e.Kind==1)<;>cases (e.Kind==2)<;>cases (e.Kind==3)<;>cases (e.Kind==4)<;>cases (e.Kind==5)<;>cases (e.Kind==6)<;>cases (e.Kind==7)<;>cases (e.Kind==8)<;>simp
section
variable {N:Nat}
theorem same_bare {e:z9} (hb:byt e.Part.Data):sameE (bareE e) e=true↔e=bareE e:=by
  rw [zsi (z14c hb) hb]; exact eq_comm
theorem z10b {e:z9} (hN:e.Ops.length+20≤N) (hl:e.Ops.length≤9223372036854775807) (hb:byt e.Part.Data):Verd (MayEn e) (z19 N e):=by
  have hs:zk N (bareE e) e=some (sameE (bareE e) e):=zoo (by have:=z14d e; omega) (by have:=z14d e; omega)
  have hsb:=same_bare hb
  have hmo:=fun o=>z14a (N:=N) (by omega) o
  have hc1:=fun a=>zpt (N:=N) (l:=[a]) (by simp; omega) (by simp)
  have hc2:=fun a b=>zpt (N:=N) (l:=[a,b]) (by simp; omega) (by simp)
  have hc8:=fun v:Vector Int 8=>zpt (N:=N) (l:=v.toList) (by simp; omega) (by simp)
  have hs1:=fun a=>siteL (N:=N) (l:=[a]) (by simp; omega) (by simp)
  have hs2:=fun a b=>siteL (N:=N) (l:=[a,b]) (by simp; omega) (by simp)
  have hops:=z11y (N:=N) (l:=e.Ops) (by omega) hl
  have hep:=fun x=>zxb (N:=N) (by omega) x
  have hpt:=fun x=>zyw (N:=N) (by omega) x
  have hm:kindE e→∀ b:Bool,(b=true↔e=bareE e∧condE e=true)→Verd (MayEn e) ((zv N b).bind fun r=>some r):=fun hk b h=>verd_of (h.trans ⟨fun h=>⟨hk,h⟩,fun h=>h.2⟩) N
  by_cases hk:kindE e
  · replace hm:=hm hk
    have hk9:e.Kind=0∨e.Kind=1∨e.Kind=2∨e.Kind=3∨e.Kind=4∨e.Kind=5∨e.Kind=6∨e.Kind=7∨e.Kind=8:=by unfold kindE at hk; omega
    obtain ⟨kd,a2,a3,a4,a5,a6,a7,a8,a9,a10,a11,a12,a13,a14,a15⟩:=e
    simp only at hk9
    rcases hk9 with rfl | rfl | rfl | rfl | rfl | rfl | rfl | rfl | rfl
    · have hz:z19 N (⟨0,a2,a3,a4,a5,a6,a7,a8,a9,a10,a11,a12,a13,a14,a15⟩:z9)=((zk N (bareE ⟨0,a2,a3,a4,a5,a6,a7,a8,a9,a10,a11,a12,a13,a14,a15⟩) ⟨0,a2,a3,a4,a5,a6,a7,a8,a9,a10,a11,a12,a13,a14,a15⟩).bind fun r1=>((zv N r1).bind fun r2=>(some r2))):=rfl
      rw [hz,hs,Option.bind_some]
      refine hm _ (hsb.trans ⟨fun h=>⟨h,?_⟩,fun h=>h.1⟩)
      rw [h]; rfl
    · have hz:z19 N (⟨1,a2,a3,a4,a5,a6,a7,a8,a9,a10,a11,a12,a13,a14,a15⟩:z9)=((z14 N [a2,a3]).bind fun r3 =>
          ((bif ((r3&&(decide (0 < a2)))&&(decide (0 < a3))) then zau N a4 else some default).bind fun r4 =>
          ((bif (((r3&&(decide (0 < a2)))&&(decide (0 < a3)))&&r4) then zk N (bareE ⟨1,a2,a3,a4,a5,a6,a7,a8,a9,a10,a11,a12,a13,a14,a15⟩) ⟨1,a2,a3,a4,a5,a6,a7,a8,a9,a10,a11,a12,a13,a14,a15⟩ else some default).bind fun r5 =>
          ((zv N ((((r3&&(decide (0 < a2)))&&(decide (0 < a3)))&&r4)&&r5)).bind fun r6=>(some r6))))):=rfl
      rw [hz,hc2,Option.bind_some,hmo,hs]
      simp only [z4l,Option.bind_some,z9h]
      refine hm _ ?_
      rw [show condE (⟨1,a2,a3,a4,a5,a6,a7,a8,a9,a10,a11,a12,a13,a14,a15⟩:z9)=(decide (cnt a2)&&decide (0 < a2)&&decide (cnt a3)&&decide (0 < a3)&&decide (MayOp a4)) from rfl]
      simp only [Bool.and_eq_true,hsb,List.all_cons,List.all_nil,Bool.and_true]
      constructor
      · rintro ⟨⟨⟨⟨⟨h1,h2⟩,h3⟩,h4⟩,h5⟩,h6⟩; exact ⟨h6,⟨⟨⟨h1,h3⟩,h2⟩,h4⟩,h5⟩
      · rintro ⟨h6,⟨⟨⟨h1,h3⟩,h2⟩,h4⟩,h5⟩; exact ⟨⟨⟨⟨⟨h1,h2⟩,h3⟩,h4⟩,h5⟩,h6⟩
    · have hz:z19 N (⟨2,a2,a3,a4,a5,a6,a7,a8,a9,a10,a11,a12,a13,a14,a15⟩:z9)=(((z1w N [a5]).bind fun r7 =>
        ((bif r7 then z14 N [a6] else some default).bind fun r8 =>
        ((bif (r7&&r8) then z4j N a7 1 else some default).bind fun r9 =>
        ((bif ((r7&&r8)&&r9) then zk N (bareE (⟨2,a2,a3,a4,a5,a6,a7,a8,a9,a10,a11,a12,a13,a14,a15⟩:z9)) (⟨2,a2,a3,a4,a5,a6,a7,a8,a9,a10,a11,a12,a13,a14,a15⟩:z9) else some default).bind fun r10 =>
        ((zv N (((r7&&r8)&&r9)&&r10)).bind fun r11 =>
        (some r11))))))):=rfl
      rw [hz]
      simp only [hs1,hs2,hc1,hc2,hops,hep,hpt,hs,z4l,Option.bind_some,z9h,List.all_cons,List.all_nil,Bool.and_true]
      refine hm _ ?_
      rw [show condE (⟨2,a2,a3,a4,a5,a6,a7,a8,a9,a10,a11,a12,a13,a14,a15⟩:z9)=(decide (sit a5)&&decide (cnt a6)&&decide (zed a7)) from rfl]
      simp only [Bool.and_eq_true,hsb]
      exact ⟨fun q=>⟨q.2,q.1⟩,fun q=>⟨q.2,q.1⟩⟩
    · have hz:z19 N (⟨3,a2,a3,a4,a5,a6,a7,a8,a9,a10,a11,a12,a13,a14,a15⟩:z9)=(((z38 N a8).bind fun r12 =>
        ((bif r12 then zk N (bareE (⟨3,a2,a3,a4,a5,a6,a7,a8,a9,a10,a11,a12,a13,a14,a15⟩:z9)) (⟨3,a2,a3,a4,a5,a6,a7,a8,a9,a10,a11,a12,a13,a14,a15⟩:z9) else some default).bind fun r13 =>
        ((zv N (r12&&r13)).bind fun r14 =>
        (some r14))))):=rfl
      rw [hz]
      simp only [hs1,hs2,hc1,hc2,hops,hep,hpt,hs,z4l,Option.bind_some,z9h,List.all_cons,List.all_nil,Bool.and_true]
      refine hm _ ?_
      rw [show condE (⟨3,a2,a3,a4,a5,a6,a7,a8,a9,a10,a11,a12,a13,a14,a15⟩:z9)=(decide (MayEp a8)) from rfl]
      simp only [Bool.and_eq_true,hsb]
      exact and_comm
    · have hz:z19 N (⟨4,a2,a3,a4,a5,a6,a7,a8,a9,a10,a11,a12,a13,a14,a15⟩:z9)=(((z14 N [a6,a11]).bind fun r15 =>
        ((bif r15 then z1w N [a9] else some default).bind fun r16 =>
        (bif (r15&&r16) then
        ((bif (r15&&r16) then z14 N (a10.toList) else some default).bind fun r17 =>
        ((bif ((r15&&r16)&&r17) then zk N (bareE (⟨4,a2,a3,a4,a5,a6,a7,a8,a9,a10,a11,a12,a13,a14,a15⟩:z9)) (⟨4,a2,a3,a4,a5,a6,a7,a8,a9,a10,a11,a12,a13,a14,a15⟩:z9) else some default).bind fun r18 =>
        ((zv N (((r15&&r16)&&r17)&&r18)).bind fun r19 =>
        (some r19))))
        else
        ((bif false then zk N (bareE (⟨4,a2,a3,a4,a5,a6,a7,a8,a9,a10,a11,a12,a13,a14,a15⟩:z9)) (⟨4,a2,a3,a4,a5,a6,a7,a8,a9,a10,a11,a12,a13,a14,a15⟩:z9) else some default).bind fun r20 =>
        ((zv N false).bind fun r21 =>
        (some r21))))))):=rfl
      rw [hz,hc2,Option.bind_some]
      simp only [hs1,hc8,hs,zts,z4l,Option.bind_some,z9h,List.all_cons,List.all_nil,Bool.and_true,cond_false,Bool.false_and]
      by_cases h:(decide (cnt a6)&&decide (cnt a11)&&decide (sit a9))=true
      · rw [h]
        simp only [cond_true,Bool.true_and]
        refine hm _ ?_
        rw [show condE (⟨4,a2,a3,a4,a5,a6,a7,a8,a9,a10,a11,a12,a13,a14,a15⟩:z9)=(decide (cnt a6)&&decide (sit a9)&&decide (zeu a10)&&decide (cnt a11)) from rfl]
        simp only [Bool.and_eq_true] at h
        simp only [Bool.and_eq_true,hsb]
        exact ⟨fun q=>⟨q.2,⟨⟨h.1.1,h.2⟩,q.1⟩,h.1.2⟩,fun q=>⟨q.2.1.2,q.1⟩⟩
      · rw [Bool.eq_false_iff.2 h]
        simp only [cond_false]
        refine hm _ ?_
        rw [show condE (⟨4,a2,a3,a4,a5,a6,a7,a8,a9,a10,a11,a12,a13,a14,a15⟩:z9)=(decide (cnt a6)&&decide (sit a9)&&decide (zeu a10)&&decide (cnt a11)) from rfl]
        simp only [Bool.and_eq_true,Bool.false_eq_true,false_iff] at h ⊢
        exact fun q=>h ⟨⟨q.2.1.1.1,q.2.2⟩,q.2.1.1.2⟩
    · have hz:z19 N (⟨5,a2,a3,a4,a5,a6,a7,a8,a9,a10,a11,a12,a13,a14,a15⟩:z9)=(((z25 N a12).bind fun r22 =>
        ((bif r22 then zk N (bareE (⟨5,a2,a3,a4,a5,a6,a7,a8,a9,a10,a11,a12,a13,a14,a15⟩:z9)) (⟨5,a2,a3,a4,a5,a6,a7,a8,a9,a10,a11,a12,a13,a14,a15⟩:z9) else some default).bind fun r23 =>
        ((zv N (r22&&r23)).bind fun r24 =>
        (some r24))))):=rfl
      rw [hz]
      simp only [hs1,hs2,hc1,hc2,hops,hep,hpt,hs,z4l,Option.bind_some,z9h,List.all_cons,List.all_nil,Bool.and_true]
      refine hm _ ?_
      rw [show condE (⟨5,a2,a3,a4,a5,a6,a7,a8,a9,a10,a11,a12,a13,a14,a15⟩:z9)=(decide (MayPt a12)) from rfl]
      simp only [Bool.and_eq_true,hsb]
      exact and_comm
    · have hz:z19 N (⟨6,a2,a3,a4,a5,a6,a7,a8,a9,a10,a11,a12,a13,a14,a15⟩:z9)=(((z1w N [a13,a14]).bind fun r25 =>
        ((bif r25 then zk N (bareE (⟨6,a2,a3,a4,a5,a6,a7,a8,a9,a10,a11,a12,a13,a14,a15⟩:z9)) (⟨6,a2,a3,a4,a5,a6,a7,a8,a9,a10,a11,a12,a13,a14,a15⟩:z9) else some default).bind fun r26 =>
        ((zv N (r25&&r26)).bind fun r27 =>
        (some r27))))):=rfl
      rw [hz]
      simp only [hs1,hs2,hc1,hc2,hops,hep,hpt,hs,z4l,Option.bind_some,z9h,List.all_cons,List.all_nil,Bool.and_true]
      refine hm _ ?_
      rw [show condE (⟨6,a2,a3,a4,a5,a6,a7,a8,a9,a10,a11,a12,a13,a14,a15⟩:z9)=(decide (sit a13)&&decide (sit a14)&&decide (cnt a15)) from rfl]
      simp only [Bool.and_eq_true,hsb]
      refine ⟨fun q=>⟨q.2,q.1,?_⟩,fun q=>⟨q.2.1,q.1⟩⟩
      have:=congrArg z9.Length q.2
      change a15=0 at this
      subst this; exact decide_eq_true ⟨by decide,by decide⟩
    · have hz:z19 N (⟨7,a2,a3,a4,a5,a6,a7,a8,a9,a10,a11,a12,a13,a14,a15⟩:z9)=(((z1w N [a13]).bind fun r28 =>
        ((bif r28 then zk N (bareE (⟨7,a2,a3,a4,a5,a6,a7,a8,a9,a10,a11,a12,a13,a14,a15⟩:z9)) (⟨7,a2,a3,a4,a5,a6,a7,a8,a9,a10,a11,a12,a13,a14,a15⟩:z9) else some default).bind fun r29 =>
        ((zv N (r28&&r29)).bind fun r30 =>
        (some r30))))):=rfl
      rw [hz]
      simp only [hs1,hs2,hc1,hc2,hops,hep,hpt,hs,z4l,Option.bind_some,z9h,List.all_cons,List.all_nil,Bool.and_true]
      refine hm _ ?_
      rw [show condE (⟨7,a2,a3,a4,a5,a6,a7,a8,a9,a10,a11,a12,a13,a14,a15⟩:z9)=(decide (sit a13)&&decide (sit a14)&&decide (cnt a15)) from rfl]
      simp only [Bool.and_eq_true,hsb]
      refine ⟨fun q=>⟨q.2,⟨q.1,?_⟩,?_⟩,fun q=>⟨q.2.1.1,q.1⟩⟩
      · have:=congrArg z9.Sponsor q.2
        change a14=0 at this
        subst this; exact decide_eq_true ⟨by decide,by decide⟩
      · have:=congrArg z9.Length q.2
        change a15=0 at this
        subst this; exact decide_eq_true ⟨by decide,by decide⟩
    · have hz:z19 N (⟨8,a2,a3,a4,a5,a6,a7,a8,a9,a10,a11,a12,a13,a14,a15⟩:z9)=(((z1w N [a13]).bind fun r31 =>
        ((bif r31 then z14 N [a15] else some default).bind fun r32 =>
        ((bif (r31&&r32) then zk N (bareE (⟨8,a2,a3,a4,a5,a6,a7,a8,a9,a10,a11,a12,a13,a14,a15⟩:z9)) (⟨8,a2,a3,a4,a5,a6,a7,a8,a9,a10,a11,a12,a13,a14,a15⟩:z9) else some default).bind fun r33 =>
        ((zv N ((r31&&r32)&&r33)).bind fun r34 =>
        (some r34)))))):=rfl
      rw [hz]
      simp only [hs1,hs2,hc1,hc2,hops,hep,hpt,hs,z4l,Option.bind_some,z9h,List.all_cons,List.all_nil,Bool.and_true]
      refine hm _ ?_
      rw [show condE (⟨8,a2,a3,a4,a5,a6,a7,a8,a9,a10,a11,a12,a13,a14,a15⟩:z9)=(decide (sit a13)&&decide (sit a14)&&decide (cnt a15)) from rfl]
      simp only [Bool.and_eq_true,hsb]
      refine ⟨fun q=>⟨q.2,⟨q.1.1,?_⟩,q.1.2⟩,fun q=>⟨⟨q.2.1.1,q.2.2⟩,q.1⟩⟩
      have:=congrArg z9.Sponsor q.2
      change a14=0 at this
      subst this; exact decide_eq_true ⟨by decide,by decide⟩
  · refine Or.inr ⟨fun h=>hk h.1,?_⟩
    have hne:∀ k:Int,0≤k→k≤8→(e.Kind==k)=false:=fun k h0 h8=>by
      refine beq_eq_false_iff_ne.2 fun h=>hk ?_
      unfold kindE; omega
    unfold z19
    rw [hne 0 (by decide) (by decide),hne 1 (by decide) (by decide),hne 2 (by decide) (by decide),hne 3 (by decide) (by decide),hne 4 (by decide) (by decide),hne 5 (by decide) (by decide),hne 6 (by decide) (by decide),hne 7 (by decide) (by decide),hne 8 (by decide) (by decide)]
    rfl
end
section
variable {N:Nat}
end
theorem cnt64 {n:Int} (h:cnt n):R64 n:=⟨by have:=h.1; omega,by have:=h.2; omega⟩
theorem sit64 {n:Int} (h:sit n):R64 n:=⟨by have:=h.1; omega,by have:=h.2; omega⟩
def epC (e:za):List (List Int):=[e.Number].map pI++e.States.toList.map pI++e.Seals.toList.map pI++e.Sponsor.toList.map pI
def ptC (p:GPart):List (List Int):=[p.Snap].map pI++[p.Index,p.Many].map pI++[pB p.Data]
def opsC (l:List GOp):List (List Int):=[(l.length:Int)].map pI++(l.map opC).flatten
def tailC (e:z9):List (List Int) :=
  bif e.Kind==1 then [e.Session,e.Request].map pI++opC e.Op else
  bif e.Kind==2 then [e.Origin].map pI++[e.Seq].map pI++opsC e.Ops else
  bif e.Kind==3 then epC e.Epoch else
  bif e.Kind==4 then [e.Seq].map pI++[e.From].map pI++e.Vector_.toList.map pI++[e.Clock].map pI else
  bif e.Kind==5 then ptC e.Part else
  bif e.Kind==6 then [e.Site,e.Sponsor].map pI else
  bif e.Kind==7 then [e.Site].map pI else
  bif e.Kind==8 then [e.Site].map pI++[e.Length].map pI else []
def enC (e:z9):List (List Int):=[e.Kind].map pI++tailC e
def enB (e:z9):List Int:=(enC e).flatten
section
variable {N:Nat} {e0:Int} {w:List Int}
theorem z37 (e:Int) (w:List Int) (cs:List (List Int)):(wr e w cs).2.1=true:=rfl
theorem ints1 (hN:20≤N) {a:Int} (ha:R64 a) (hw:w.length≤1048576):z5 N [a] e0 true w=some (wr e0 w ([a].map pI)) :=
  zx9 (by omega) (by simp; omega) (by simp) (by intro n hn; simp at hn; subst hn; exact ha) hw
theorem ints2 (hN:20≤N) {a b:Int} (ha:R64 a) (hb:R64 b) (hw:w.length≤1048576):z5 N [a,b] e0 true w=some (wr e0 w ([a,b].map pI)) :=
  zx9 (by omega) (by simp; omega) (by simp) (by intro n hn; simp at hn; rcases hn with rfl | rfl<;>assumption) hw
theorem zpu (hN:20≤N) {a:Int} (ha:R64 a) (hw:w.length≤1048576):zb N [a] e0 true w=some (wr e0 w ([a].map pI)) :=
  zv7 (by omega) (by simp; omega) (by simp) (by intro n hn; simp at hn; subst hn; exact ha) hw
theorem small2 (hN:20≤N) {a b:Int} (ha:R64 a) (hb:R64 b) (hw:w.length≤1048576):zb N [a,b] e0 true w=some (wr e0 w ([a,b].map pI)) :=
  zv7 (by omega) (by simp; omega) (by simp) (by intro n hn; simp at hn; rcases hn with rfl | rfl<;>assumption) hw
theorem ints8 (hN:20≤N) {v:Vector Int 8} (hv:∀ n∈v.toList,R64 n) (hw:w.length≤1048576):z5 N v.toList e0 true w=some (wr e0 w (v.toList.map pI)) :=
  zx9 (by omega) (by simp; omega) (by simp) hv hw
theorem small8 (hN:20≤N) {v:Vector Int 8} (hv:∀ n∈v.toList,R64 n) (hw:w.length≤1048576):zb N v.toList e0 true w=some (wr e0 w (v.toList.map pI)) :=
  zv7 (by omega) (by simp; omega) (by simp) hv hw
theorem zxc {e:za} (h:MayEp e):(∀ n∈e.States.toList,R64 n)∧(∀ n∈e.Sponsor.toList,R64 n)∧∀ n∈e.Seals.toList,R64 n:=by
  refine ⟨fun n hn=>?_,fun n hn=>?_,fun n hn=>cnt64 (h.2.1 n hn)⟩
  · obtain ⟨j,hj,rfl⟩:=List.getElem_of_mem hn
    have hj8:j < 8:=by simpa using hj
    have:=(h.2.2 j hj8).1
    rw [vgetE e.States default hj8] at this
    have e1:e.States.toList[j]=e.States[j]:=by simp
    rw [e1]; exact ⟨by omega,by omega⟩
  · obtain ⟨j,hj,rfl⟩:=List.getElem_of_mem hn
    have hj8:j < 8:=by simpa using hj
    have:=(h.2.2 j hj8).2
    rw [vgetE e.Sponsor default hj8] at this
    have e1:e.Sponsor.toList[j]=e.Sponsor[j]:=by simp
    rw [e1]; exact ⟨by omega,by omega⟩
theorem epw_eq (hN:20≤N) {e:za} (h:MayEp e) (hw:w.length≤1048576):z27 N e e0 true w=some (wr e0 w (epC e)):=by
  obtain ⟨h1,h2,h3⟩:=zxc h
  unfold z27
  rw [ints1 hN (cnt64 h.1) hw,Option.bind_some,z37,small8 hN h1 (z21 hw _),z1v,Option.bind_some,z37,ints8 hN h3 (z21 hw _),z1v,Option.bind_some,z37,small8 hN h2 (z21 hw _),z1v,Option.bind_some]
  rfl
theorem ptw_eq (hN:20≤N) {p:GPart} (h:MayPt p) (hw:w.length≤1048576):z1m N p e0 true w=some (wr e0 w (ptC p)):=by
  obtain ⟨h1,⟨h2,h3⟩,⟨h4,h5⟩,h6⟩:=h
  unfold z1m
  rw [ints1 hN (cnt64 h1) hw,Option.bind_some,z37,small2 hN ⟨by omega,by omega⟩ ⟨by omega,by omega⟩ (z21 hw _),z1v,Option.bind_some,z37,F32_eq (by omega) (by omega) (z21 hw _),Option.bind_some,z109,z1v,Option.bind_some]
  rfl
theorem opsw_eq {l:List GOp} (hN:l.length+20≤N) (h:zed l) (hw:w.length≤1048576):z2t N l e0 true w=some (wr e0 w (opsC l)):=by
  obtain ⟨h1,h2,h3⟩:=h
  unfold z2t
  rw [zpu (by omega) ⟨by omega,by omega⟩ hw,Option.bind_some]
  refine z2i (fun q:z2x=>0≤q.t13∧q.t13≤(l.length:Int)∧q.b1=true∧q.b12.length≤1048576∧wr q.b0 q.b12 ((l.drop q.t13.toNat).map opC).flatten=wr e0 w (opsC l)) (fun q=>((l.length:Int) - q.t13).toNat) ?_ N _ ⟨by simp,by simp,rfl,z21 hw _,?_⟩ (by simp; omega)
  · rintro ⟨i,b0,b1,b12⟩ nx ⟨g0,g1,rfl,g3,hq⟩ ih
    simp only at g0 g1 g3 hq ih ⊢
    by_cases hi:i < l.length
    · have hm:=h3 _ (za9 (default:GOp) g0 hi)
      rw [z2a (default:GOp) g0 hi,List.map_cons,List.flatten_cons,← z1v] at hq
      simp only [decide_eq_true hi,z3x g0 hi,cond_true]
      change (z3e N (lget l i default) b0 true b12).bind _=_
      rw [opw_eq (by omega) hm g3,Option.bind_some,z20 (by omega) (by omega)]
      exact ih ⟨i+1,_,_,_⟩ ⟨by simp; omega,by simp; omega,rfl,z21 g3 _,hq⟩ (by simp; omega)
    · have:decide (i < (l.length:Int))=false:=by simpa using hi
      simp only [this,cond_false]
      rw [List.drop_eq_nil_of_le (by omega)] at hq
      rw [← hq]; rfl
  · simp only
    rw [z1v]; simp [opsC]
theorem z11z {e:z9} (hN:e.Ops.length+20≤N) (h:MayEn e) (hw:w.length≤1048576):z1x N e e0 true w=some (wr e0 w (enC e)):=by
  obtain ⟨hk,_,hc⟩:=h
  have hk9:e.Kind=0∨e.Kind=1∨e.Kind=2∨e.Kind=3∨e.Kind=4∨e.Kind=5∨e.Kind=6∨e.Kind=7∨e.Kind=8:=by unfold kindE at hk; omega
  obtain ⟨kd,a2,a3,a4,a5,a6,a7,a8,a9,a10,a11,a12,a13,a14,a15⟩:=e
  simp only at hk9 hN
  have h1:zb N [kd] e0 true w=some (wr e0 w ([kd].map pI)):=zpu (by omega) ⟨by omega,by omega⟩ hw
  have hw1:(wr e0 w ([kd].map pI)).2.2.length≤1048576:=z21 hw _
  have hc0:∀ cs,wr (wr e0 w ([kd].map pI)).1 (wr e0 w ([kd].map pI)).2.2 cs=wr e0 w ([kd].map pI++cs):=fun cs=>z1v _ _ _ _
  have hN':20≤N:=by omega
  unfold z1x
  simp only
  rw [h1,Option.bind_some,z37]
  rcases hk9 with rfl | rfl | rfl | rfl | rfl | rfl | rfl | rfl | rfl
  · show some ((wr e0 w ([(0:Int)].map pI)).1,(wr e0 w ([(0:Int)].map pI)).2.1,(wr e0 w ([(0:Int)].map pI)).2.2)=some (wr e0 w ([(0:Int)].map pI++[]))
    rw [List.append_nil]
  · replace hc:(decide (cnt a2)&&decide (0 < a2)&&decide (cnt a3)&&decide (0 < a3)&&decide (MayOp a4))=true:=hc
    simp only [Bool.and_eq_true,decide_eq_true_eq] at hc
    obtain ⟨⟨⟨⟨c1,_⟩,c2⟩,_⟩,c3⟩:=hc
    simp only [Int.reduceBEq,cond_true,cond_false]
    rw [ints2 hN' (cnt64 c1) (cnt64 c2) hw1,z1v,Option.bind_some,z37,opw_eq hN' c3 (z21 hw _),z1v,Option.bind_some]
    show some (wr e0 w _)=some (wr e0 w _)
    simp only [enC,tailC,Int.reduceBEq,cond_true,cond_false,List.append_assoc]
  · replace hc:(decide (sit a5)&&decide (cnt a6)&&decide (zed a7))=true:=hc
    simp only [Bool.and_eq_true,decide_eq_true_eq] at hc
    obtain ⟨⟨c1,c2⟩,c3⟩:=hc
    simp only [Int.reduceBEq,cond_true,cond_false]
    rw [zpu hN' (sit64 c1) hw1,z1v,Option.bind_some,z37,ints1 hN' (cnt64 c2) (z21 hw _),z1v,Option.bind_some,z37,opsw_eq hN c3 (z21 hw _),z1v,Option.bind_some]
    show some (wr e0 w _)=some (wr e0 w _)
    simp only [enC,tailC,Int.reduceBEq,cond_true,cond_false,List.append_assoc]
  · replace hc:(decide (MayEp a8))=true:=hc
    simp only [Bool.and_eq_true,decide_eq_true_eq] at hc
    have c1:=hc
    simp only [Int.reduceBEq,cond_true,cond_false]
    rw [epw_eq hN' c1 hw1,z1v,Option.bind_some]
    show some (wr e0 w _)=some (wr e0 w _)
    simp only [enC,tailC,Int.reduceBEq,cond_true,cond_false,List.append_assoc]
  · replace hc:(decide (cnt a6)&&decide (sit a9)&&decide (zeu a10)&&decide (cnt a11))=true:=hc
    simp only [Bool.and_eq_true,decide_eq_true_eq] at hc
    obtain ⟨⟨⟨c1,c2⟩,c3⟩,c4⟩:=hc
    simp only [Int.reduceBEq,cond_true,cond_false]
    rw [ints1 hN' (cnt64 c1) hw1,z1v,Option.bind_some,z37,zpu hN' (sit64 c2) (z21 hw _),z1v,Option.bind_some,z37,ints8 hN' (fun n hn=>cnt64 (c3 n hn)) (z21 hw _),z1v,Option.bind_some,z37,ints1 hN' (cnt64 c4) (z21 hw _),z1v,Option.bind_some]
    show some (wr e0 w _)=some (wr e0 w _)
    simp only [enC,tailC,Int.reduceBEq,cond_true,cond_false,List.append_assoc]
  · replace hc:(decide (MayPt a12))=true:=hc
    simp only [Bool.and_eq_true,decide_eq_true_eq] at hc
    have c1:=hc
    simp only [Int.reduceBEq,cond_true,cond_false]
    rw [ptw_eq hN' c1 hw1,z1v,Option.bind_some]
    show some (wr e0 w _)=some (wr e0 w _)
    simp only [enC,tailC,Int.reduceBEq,cond_true,cond_false,List.append_assoc]
  · replace hc:(decide (sit a13)&&decide (sit a14)&&decide (cnt a15))=true:=hc
    simp only [Bool.and_eq_true,decide_eq_true_eq] at hc
    obtain ⟨⟨c1,c2⟩,c3⟩:=hc
    simp only [Int.reduceBEq,cond_true,cond_false]
    rw [small2 hN' (sit64 c1) (sit64 c2) hw1,z1v,Option.bind_some]
    show some (wr e0 w _)=some (wr e0 w _)
    simp only [enC,tailC,Int.reduceBEq,cond_true,cond_false,List.append_assoc]
  · replace hc:(decide (sit a13)&&decide (sit a14)&&decide (cnt a15))=true:=hc
    simp only [Bool.and_eq_true,decide_eq_true_eq] at hc
    obtain ⟨⟨c1,c2⟩,c3⟩:=hc
    simp only [Int.reduceBEq,cond_true,cond_false]
    rw [zpu hN' (sit64 c1) hw1,z1v,Option.bind_some]
    show some (wr e0 w _)=some (wr e0 w _)
    simp only [enC,tailC,Int.reduceBEq,cond_true,cond_false,List.append_assoc]
  · replace hc:(decide (sit a13)&&decide (sit a14)&&decide (cnt a15))=true:=hc
    simp only [Bool.and_eq_true,decide_eq_true_eq] at hc
    obtain ⟨⟨c1,c2⟩,c3⟩:=hc
    simp only [Int.reduceBEq,cond_true,cond_false]
    rw [zpu hN' (sit64 c1) hw1,z1v,Option.bind_some,z37,ints1 hN' (cnt64 c3) (z21 hw _),z1v,Option.bind_some]
    show some (wr e0 w _)=some (wr e0 w _)
    simp only [enC,tailC,Int.reduceBEq,cond_true,cond_false,List.append_assoc]
end
theorem pI_byt {n:Int} (h:R64 n):byt (pI n):=by
  intro x hx
  exact z11s 9 (zig n) (Nat.lt_trans (zyt h) (by decide)) x hx
def CB (cs:List (List Int)):Prop:=∀ c∈cs,byt c
theorem CB.append {a b:List (List Int)} (ha:CB a) (hb:CB b):CB (a++b):=fun c hc=>(List.mem_append.1 hc).elim (ha c) (hb c)
theorem CB.flat {cs:List (List Int)} (h:CB cs):byt cs.flatten:=fun x hx=>by
  obtain ⟨c,hc,hx⟩:=List.mem_flatten.1 hx
  exact h c hc x hx
theorem CB.nil:CB []:=fun c hc=>by cases hc
theorem CB.ints {l:List Int} (h:∀ n∈l,R64 n):CB (l.map pI):=fun c hc=>by
  obtain ⟨n,hn,rfl⟩:=List.mem_map.1 hc
  exact pI_byt (h n hn)
theorem CB.int1 {a:Int} (ha:R64 a):CB ([a].map pI):=CB.ints (by intro n hn; simp at hn; subst hn; exact ha)
theorem CB.int2 {a b:Int} (ha:R64 a) (hb:R64 b):CB ([a,b].map pI):=CB.ints (by intro n hn; simp at hn; rcases hn with rfl | rfl<;>assumption)
theorem byt_pB {l:List Int} (hl:l.length≤1048576) (h:byt l):byt (pB l):=fun x hx=>by
  unfold pB at hx
  rcases List.mem_append.1 hx with hx | hx
  · exact pI_byt (n:=(l.length:Int)) ⟨by omega,by omega⟩ x hx
  · exact h x hx
theorem z14x (s:List UInt8):byt (zio s):=fun x hx=>by
  unfold zio at hx
  obtain ⟨b,_,rfl⟩:=List.mem_map.1 hx
  have:=b.toNat_lt
  exact ⟨by omega,by omega⟩
theorem CB.texts {l:List (List UInt8)} (h:∀ s∈l,s.length≤1048576):CB (l.map pT):=fun c hc=>by
  obtain ⟨s,hs,rfl⟩:=List.mem_map.1 hc
  exact byt_pB (by rw [ztr]; exact h s hs) (z14x s)
theorem CB.op {o:GOp} (h:MayOp o):CB (opC o):=by
  obtain ⟨h1,h2,h3,h4,h5,h6,h7,h8⟩:=h
  exact (((CB.int1 ⟨by omega,by omega⟩).append (CB.int2 ⟨by omega,by omega⟩ ⟨by omega,by omega⟩)).append (CB.int2 ⟨by omega,by omega⟩ ⟨by omega,by omega⟩)).append (CB.texts (by intro s hs; simp at hs; rcases hs with rfl | rfl | rfl<;>omega))
theorem CB.ops {l:List GOp} (h:zed l):CB (opsC l) :=
  (CB.int1 ⟨by omega,by have:=h.2.1; omega⟩).append fun c hc=>by
    obtain ⟨cs,hcs,hc⟩:=List.mem_flatten.1 hc
    obtain ⟨o,ho,rfl⟩:=List.mem_map.1 hcs
    exact CB.op (h.2.2 o ho) c hc
theorem CB.ep {e:za} (h:MayEp e):CB (epC e):=by
  obtain ⟨h1,h2,h3⟩:=zxc h
  exact (((CB.int1 (cnt64 h.1)).append (CB.ints h1)).append (CB.ints h3)).append (CB.ints h2)
theorem CB.pt {p:GPart} (h:MayPt p) (hb:byt p.Data):CB (ptC p):=by
  obtain ⟨h1,⟨h2,h3⟩,⟨h4,h5⟩,h6⟩:=h
  exact ((CB.int1 (cnt64 h1)).append (CB.int2 ⟨by omega,by omega⟩ ⟨by omega,by omega⟩)).append (fun c hc=>by simp at hc; subst hc; exact byt_pB (by omega) hb)
theorem CB.en {e:z9} (h:MayEn e) (hb:byt e.Part.Data):CB (enC e):=by
  obtain ⟨hk,_,hc⟩:=h
  have hk9:e.Kind=0∨e.Kind=1∨e.Kind=2∨e.Kind=3∨e.Kind=4∨e.Kind=5∨e.Kind=6∨e.Kind=7∨e.Kind=8:=by unfold kindE at hk; omega
  obtain ⟨kd,a2,a3,a4,a5,a6,a7,a8,a9,a10,a11,a12,a13,a14,a15⟩:=e
  simp only at hk9
  refine (CB.int1 (a:=kd) ⟨by omega,by omega⟩).append ?_
  rcases hk9 with rfl | rfl | rfl | rfl | rfl | rfl | rfl | rfl | rfl
  · replace hc:(decide (sit a13)&&decide (sit a14)&&decide (cnt a15))=true:=hc
    simp only [Bool.and_eq_true,decide_eq_true_eq] at hc
    obtain ⟨⟨c1,c2⟩,c3⟩:=hc
    exact CB.nil
  · replace hc:(decide (cnt a2)&&decide (0 < a2)&&decide (cnt a3)&&decide (0 < a3)&&decide (MayOp a4))=true:=hc
    simp only [Bool.and_eq_true,decide_eq_true_eq] at hc
    obtain ⟨⟨⟨⟨c1,_⟩,c2⟩,_⟩,c3⟩:=hc
    exact (CB.int2 (cnt64 c1) (cnt64 c2)).append (CB.op c3)
  · replace hc:(decide (sit a5)&&decide (cnt a6)&&decide (zed a7))=true:=hc
    simp only [Bool.and_eq_true,decide_eq_true_eq] at hc
    obtain ⟨⟨c1,c2⟩,c3⟩:=hc
    exact ((CB.int1 (sit64 c1)).append (CB.int1 (cnt64 c2))).append (CB.ops c3)
  · replace hc:(decide (MayEp a8))=true:=hc
    simp only [Bool.and_eq_true,decide_eq_true_eq] at hc
    have c1:=hc
    exact CB.ep c1
  · replace hc:(decide (cnt a6)&&decide (sit a9)&&decide (zeu a10)&&decide (cnt a11))=true:=hc
    simp only [Bool.and_eq_true,decide_eq_true_eq] at hc
    obtain ⟨⟨⟨c1,c2⟩,c3⟩,c4⟩:=hc
    exact (((CB.int1 (cnt64 c1)).append (CB.int1 (sit64 c2))).append (CB.ints fun n hn=>cnt64 (c3 n hn))).append (CB.int1 (cnt64 c4))
  · replace hc:(decide (MayPt a12))=true:=hc
    simp only [Bool.and_eq_true,decide_eq_true_eq] at hc
    have c1:=hc
    exact CB.pt c1 hb
  · replace hc:(decide (sit a13)&&decide (sit a14)&&decide (cnt a15))=true:=hc
    simp only [Bool.and_eq_true,decide_eq_true_eq] at hc
    obtain ⟨⟨c1,c2⟩,c3⟩:=hc
    exact CB.int2 (sit64 c1) (sit64 c2)
  · replace hc:(decide (sit a13)&&decide (sit a14)&&decide (cnt a15))=true:=hc
    simp only [Bool.and_eq_true,decide_eq_true_eq] at hc
    obtain ⟨⟨c1,c2⟩,c3⟩:=hc
    exact CB.int1 (sit64 c1)
  · replace hc:(decide (sit a13)&&decide (sit a14)&&decide (cnt a15))=true:=hc
    simp only [Bool.and_eq_true,decide_eq_true_eq] at hc
    obtain ⟨⟨c1,c2⟩,c3⟩:=hc
    exact (CB.int1 (sit64 c1)).append (CB.int1 (cnt64 c3))
section
variable {N:Nat}
end
def MayAd (a:GAddr):Prop:=(0≤a.Group∧a.Group < 9)∧(0≤a.Replica∧a.Replica < 5)
instance (a:GAddr):Decidable (MayAd a):=by unfold MayAd; infer_instance
def MayBa (b:zu):Prop:=cnt b.Round∧(0≤b.Replica∧b.Replica < 5)
instance (b:zu):Decidable (MayBa b):=by unfold MayBa; infer_instance
def MaySl (x:zc):Prop:=cnt x.Slot∧MayBa x.Ballot∧MayEn x.Entry
section
variable {N:Nat}
theorem zu9 (hN:20≤N) (b:zu):z8p N b=some (decide (MayBa b)):=by
  unfold z8p
  rw [zpt (by simp; omega) (by simp),Option.bind_some]
  refine congrArg some (bdec ?_)
  unfold MayBa
  simp only [List.all_cons,List.all_nil,Bool.and_true,Bool.and_eq_true,decide_eq_true_eq,and_assoc]
theorem zyx (hN:20≤N) (a b:GAddr):z1d N [a,b]=some (decide (MayAd a)&&decide (MayAd b)):=by
  obtain ⟨k,rfl⟩:∃ k,N=k+20:=⟨N - 20,by omega⟩
  have:z1d (k+20) [a,b]=(bif ((((decide (a.Group < 0)) || (decide (9≤a.Group))) || (decide (a.Replica < 0))) || (decide (5≤a.Replica))) then some false else
      bif ((((decide (b.Group < 0)) || (decide (9≤b.Group))) || (decide (b.Replica < 0))) || (decide (5≤b.Replica))) then some false else some true):=by kernel_rfl
  rw [this]
  have key:∀ a:GAddr,((((decide (a.Group < 0)) || (decide (9≤a.Group))) || (decide (a.Replica < 0))) || (decide (5≤a.Replica)))=!decide (MayAd a):=fun a=>by
    by_cases h:MayAd a
    · have h':=h
      obtain ⟨⟨h1,h2⟩,h3,h4⟩:=h'
      rw [decide_eq_true h,decide_eq_false (by omega),decide_eq_false (by omega),decide_eq_false (by omega),decide_eq_false (by omega)]; rfl
    · rw [decide_eq_false h]
      unfold MayAd at h
      simp only [Bool.or_eq_true,decide_eq_true_eq,Bool.not_false]
      omega
  rw [key,key]
  cases decide (MayAd a)<;>cases decide (MayAd b)<;>rfl
end
def slq (a b:zc):Bool:=((a.Slot==b.Slot)&&((a.Ballot.Round==b.Ballot.Round)&&(a.Ballot.Replica==b.Ballot.Replica)))&&sameE a.Entry b.Entry
theorem slq_iff {a b:zc} (ha:byt a.Entry.Part.Data) (hb:byt b.Entry.Part.Data):slq a b=true↔a=b:=by
  obtain ⟨a1,⟨a2,a3⟩,a4⟩:=a
  obtain ⟨b1,⟨b2,b3⟩,b4⟩:=b
  simp only [slq,Bool.and_eq_true,beq_iff_eq,zsi (a:=a4) (b:=b4) ha hb,zc.mk.injEq,zu.mk.injEq,and_assoc]
def slqs (a b:List zc):Bool:=((a.length:Int)==(b.length:Int))&&((a.zip b).all fun p=>slq p.1 p.2)
theorem z14e:∀ {a b:List zc},(∀ x∈a,byt x.Entry.Part.Data)→(∀ x∈b,byt x.Entry.Part.Data)→(slqs a b=true↔a=b)
  | [],[],_,_=>by simp [slqs]
  | [],y :: b,_,_=>by simp [slqs]; omega
  | x :: a,[],_,_=>by simp [slqs]; omega
  | x :: a, y :: b, ha, hb => by
    have ih:=z14e (a:=a) (b:=b) (fun z hz=>ha z (by simp [hz])) (fun z hz=>hb z (by simp [hz]))
    have h1:=slq_iff (ha x (by simp)) (hb y (by simp))
    unfold slqs at ih ⊢
    simp only [List.length_cons,List.zip_cons_cons,List.all_cons,Bool.and_eq_true,beq_iff_eq,List.cons.injEq] at ih ⊢
    constructor
    · rintro ⟨h,h2,h3⟩; exact ⟨h1.1 h2,ih.1 ⟨by omega,h3⟩⟩
    · rintro ⟨h,h2⟩; obtain ⟨h3,h4⟩:=ih.2 h2; exact ⟨by omega,h1.2 h,h4⟩
section
variable {N:Nat}
def roomS (N:Nat) (l:List zc):Prop:=l.length+20≤N∧l.length≤9223372036854775807∧∀ x∈l,x.Entry.Ops.length+20≤N∧x.Entry.Ops.length≤9223372036854775807∧byt x.Entry.Part.Data
theorem sameSl1 {a b:zc} (h:a.Entry.Ops.length+20≤N∧a.Entry.Ops.length≤9223372036854775807∧byt a.Entry.Part.Data):z6h N a b=some (slq a b):=by
  unfold z6h
  rw [zoo (by omega) h.2.1]
  simp only [z4l,Option.bind_some,z9h]
  rfl
theorem sameSl_eq {a b:List zc} (ha:roomS N a):z3a N a b=some (slqs a b):=by
  obtain ⟨hN,hm,hr⟩:=ha
  unfold z3a slqs
  by_cases hl:a.length=b.length
  · simp only [hl,beq_self_eq_true,Bool.not_true,cond_false,Bool.true_and]
    refine z2i (fun q:z1u=>0≤q.t17∧q.t17≤(a.length:Int)∧(((a.drop q.t17.toNat).zip (b.drop q.t17.toNat)).all fun p=>slq p.1 p.2)=((a.zip b).all fun p=>slq p.1 p.2)) (fun q=>((a.length:Int) - q.t17).toNat) ?_ N _ ⟨by simp,by simp,by simp⟩ (by simp; omega)
    rintro ⟨i⟩ nx ⟨g0,g1,hq⟩ ih
    simp only at g0 g1 hq ih ⊢
    by_cases hi:i < b.length
    · have hi':i < a.length:=by omega
      have hro:=hr _ (za9 (default:zc) g0 hi')
      rw [z2a (default:zc) g0 hi,z2a (default:zc) g0 hi',List.zip_cons_cons,List.all_cons] at hq
      simp only [decide_eq_true hi,z3x g0 hi,cond_true]
      change (z6h N (lget a i default) (lget b i default)).bind _=_
      rw [sameSl1 hro,Option.bind_some]
      cases ho:slq (lget a i default) (lget b i default) with
      | true =>
        rw [ho,Bool.true_and] at hq
        simp only [Bool.not_true,cond_false]
        rw [z20 (by omega) (by omega)]
        exact ih ⟨i+1⟩ ⟨by simp; omega,by simp; omega,hq⟩ (by simp; omega)
      | false=>rw [ho,Bool.false_and] at hq; rw [← hq]; rfl
    · have:decide (i < (b.length:Int))=false:=by simpa using hi
      simp only [this,cond_false]
      rw [List.drop_eq_nil_of_le (by omega)] at hq
      rw [← hq]; rfl
  · have:((a.length:Int)==(b.length:Int))=false:=by simp; omega
    simp only [this,Bool.not_false,cond_true,Bool.false_and]
theorem z14y {a b:zc} (h:a.Entry.Ops.length+20≤N∧a.Entry.Ops.length≤9223372036854775807∧byt a.Entry.Part.Data):z79 N a b=some (slq a b):=by
  unfold z79
  rw [zop (by omega) h.2.1]
  simp only [z4l,Option.bind_some,z9h]
  rfl
theorem z120 {a b:List zc} (ha:roomS N a):zcq N a b=some (slqs a b):=by
  obtain ⟨hN,hm,hr⟩:=ha
  unfold zcq slqs
  by_cases hl:a.length=b.length
  · simp only [hl,beq_self_eq_true,Bool.not_true,cond_false,Bool.true_and]
    refine z2i (fun q:z5v=>0≤q.i∧q.i≤(a.length:Int)∧(((a.drop q.i.toNat).zip (b.drop q.i.toNat)).all fun p=>slq p.1 p.2)=((a.zip b).all fun p=>slq p.1 p.2)) (fun q=>((a.length:Int) - q.i).toNat) ?_ N _ ⟨by simp,by simp,by simp⟩ (by simp; omega)
    rintro ⟨i⟩ nx ⟨g0,g1,hq⟩ ih
    simp only at g0 g1 hq ih ⊢
    by_cases hi:i < b.length
    · have hi':i < a.length:=by omega
      have hro:=hr _ (za9 (default:zc) g0 hi')
      rw [z2a (default:zc) g0 hi,z2a (default:zc) g0 hi',List.zip_cons_cons,List.all_cons] at hq
      simp only [decide_eq_true hi,z3x g0 hi,cond_true]
      change (z79 N (lget a i default) (lget b i default)).bind _=_
      rw [z14y hro,Option.bind_some]
      cases ho:slq (lget a i default) (lget b i default) with
      | true =>
        rw [ho,Bool.true_and] at hq
        simp only [Bool.not_true,cond_false]
        rw [z20 (by omega) (by omega)]
        exact ih ⟨i+1⟩ ⟨by simp; omega,by simp; omega,hq⟩ (by simp; omega)
      | false=>rw [ho,Bool.false_and] at hq; rw [← hq]; rfl
    · have:decide (i < (b.length:Int))=false:=by simpa using hi
      simp only [this,cond_false]
      rw [List.drop_eq_nil_of_le (by omega)] at hq
      rw [← hq]; rfl
  · have:((a.length:Int)==(b.length:Int))=false:=by simp; omega
    simp only [this,Bool.not_false,cond_true,Bool.false_and]
end
def adq (a b:GAddr):Bool:=(a.Group==b.Group)&&(a.Replica==b.Replica)
def baq (a b:zu):Bool:=(a.Round==b.Round)&&(a.Replica==b.Replica)
theorem adq_iff (a b:GAddr):adq a b=true↔a=b:=by
  obtain ⟨a1,a2⟩:=a
  obtain ⟨b1,b2⟩:=b
  simp only [adq,Bool.and_eq_true,beq_iff_eq,GAddr.mk.injEq]
theorem baq_iff (a b:zu):baq a b=true↔a=b:=by
  obtain ⟨a1,a2⟩:=a
  obtain ⟨b1,b2⟩:=b
  simp only [baq,Bool.and_eq_true,beq_iff_eq,zu.mk.injEq]
def sameM (a b:GMsg):Bool :=
  (((((((((((((a.Kind==b.Kind)&&adq a.From b.From)&&adq a.To b.To)&&baq a.Ballot b.Ballot)&&(a.Slot==b.Slot))&&slqs a.List_ b.List_)&&sameE a.Entry b.Entry)&&(a.Number==b.Number))&&(vbeq beq2 a.Vector_ b.Vector_))&&(a.Clock==b.Clock))&&(a.Origin==b.Origin))&&opsB a.Ops b.Ops)&&epq a.Epoch b.Epoch)&&ptq a.Part b.Part
def bytM (m:GMsg):Prop:=(∀ x∈m.List_,byt x.Entry.Part.Data)∧byt m.Entry.Part.Data∧byt m.Part.Data
def roomM (N:Nat) (m:GMsg):Prop:=roomS N m.List_∧(m.Entry.Ops.length+20≤N∧m.Entry.Ops.length≤9223372036854775807∧byt m.Entry.Part.Data)∧(m.Ops.length+20≤N∧m.Ops.length≤9223372036854775807)∧byt m.Part.Data
theorem roomM.byt {N:Nat} {m:GMsg} (h:roomM N m):bytM m:=⟨fun x hx=>(h.1.2.2 x hx).2.2,h.2.1.2.2,h.2.2.2⟩
theorem zoq {a b:GMsg} (ha:bytM a) (hb:bytM b):sameM a b=true↔a=b:=by
  obtain ⟨a1,a2,a3,a4,a5,a6,a7,a8,a9,a10,a11,a12,a13,a14⟩:=a
  obtain ⟨b1,b2,b3,b4,b5,b6,b7,b8,b9,b10,b11,b12,b13,b14⟩:=b
  obtain ⟨p1,p2,p3⟩:=ha
  obtain ⟨q1,q2,q3⟩:=hb
  simp only [sameM,Bool.and_eq_true,beq_iff_eq,adq_iff,baq_iff,z14e (a:=a6) (b:=b6) p1 q1,zsi (a:=a7) (b:=b7) p2 q2,zv5 z10a,z14b,epq_iff,ptq_iff (a:=a14) (b:=b14) p3 q3,GMsg.mk.injEq,and_assoc]
section
variable {N:Nat}
theorem z14z {a b:GMsg} (h:roomM N a):zak N a b=some (sameM a b):=by
  obtain ⟨h1,h2,h3,h4⟩:=h
  unfold zak z9m
  rw [sameSl_eq h1,zoo (by omega) h2.2.1,zxa (by omega) h3.2]
  simp only [z4l,Option.bind_some,z9h]
  rfl
theorem zsj {a b:GMsg} (h:roomM N a):ze6 N a b=some (sameM a b):=by
  obtain ⟨h1,h2,h3,h4⟩:=h
  unfold ze6 zai
  rw [z120 h1,zop (by omega) h2.2.1,z11x (by omega) h3.2]
  simp only [z4l,Option.bind_some,z9h]
  rfl
end
def mayEn (e:z9):Bool:=decide (0≤e.Kind∧e.Kind≤8)&&sameE e (bareE e)&&condE e
theorem zsk {e:z9} (hb:byt e.Part.Data):mayEn e=true↔MayEn e:=by
  unfold mayEn MayEn kindE
  simp only [Bool.and_eq_true,decide_eq_true_eq,zsi hb (z14c hb),and_assoc]
def maySl (x:zc):Bool:=decide (cnt x.Slot)&&decide (MayBa x.Ballot)&&mayEn x.Entry
section
variable {N:Nat}
theorem zxd {e:z9} (h:e.Ops.length+20≤N∧e.Ops.length≤9223372036854775807∧byt e.Part.Data):z19 N e=some (bif mayEn e then 0 else 40):=by
  rcases z10b h.1 h.2.1 h.2.2 with ⟨p,q⟩ | ⟨p,q⟩
  · rw [q,(zsk h.2.2).2 p]; rfl
  · have:mayEn e=false:=Bool.eq_false_iff.2 fun hm=>p ((zsk h.2.2).1 hm)
    rw [q,this]; rfl
theorem maySl1 (hN:20≤N) {x:zc} (h:x.Entry.Ops.length+20≤N∧x.Entry.Ops.length≤9223372036854775807∧byt x.Entry.Part.Data):z57 N x=some (!maySl x):=by
  unfold z57 maySl
  rw [zpt (by simp; omega) (by simp),zu9 hN,zxd h]
  simp only [Option.bind_some,List.all_cons,List.all_nil,Bool.and_true]
  cases decide (cnt x.Slot)<;>cases decide (MayBa x.Ballot)<;>cases mayEn x.Entry<;>rfl
theorem z150 {l:List zc} (h:roomS N l):z2y N l=some (!(l.all maySl)):=by
  obtain ⟨hN,hm,hr⟩:=h
  unfold z2y
  have key:∃ r,z39 N l=some r∧decide (0≤r)=!(l.all maySl):=by
    unfold z39
    refine zoi (fun q:z1t=>0≤q.t8∧q.t8≤(l.length:Int)∧((l.drop q.t8.toNat).all maySl)=l.all maySl) (fun q=>((l.length:Int) - q.t8).toNat) _ ?_ N _ ⟨by simp,by simp,by simp⟩ (by simp; omega)
    rintro ⟨i⟩ nx ⟨g0,g1,hq⟩ ih
    simp only at g0 g1 hq ih ⊢
    by_cases hi:i < l.length
    · have hro:=hr _ (za9 (default:zc) g0 hi)
      rw [z2a (default:zc) g0 hi,List.all_cons] at hq
      simp only [decide_eq_true hi,z3x g0 hi,cond_true]
      change ∃ r,(z57 N (lget l i default)).bind _=some r∧_
      rw [maySl1 (by omega) hro,Option.bind_some]
      cases ho:maySl (lget l i default) with
      | true =>
        rw [ho,Bool.true_and] at hq
        simp only [Bool.not_true,cond_false]
        rw [z20 (by omega) (by omega)]
        exact ih ⟨i+1⟩ ⟨by simp; omega,by simp; omega,hq⟩ (by simp; omega)
      | false =>
        rw [ho,Bool.false_and] at hq
        exact ⟨i,rfl,by rw [← hq]; simpa using g0⟩
    · have:decide (i < (l.length:Int))=false:=by simpa using hi
      simp only [this,cond_false]
      rw [List.drop_eq_nil_of_le (by omega)] at hq
      exact ⟨-1,rfl,by rw [← hq]; rfl⟩
  obtain ⟨r,h1,h2⟩:=key
  rw [h1,Option.bind_some,h2]
end
def zd7 (l:List zc) (a b:Int):Bool:=(decide (a≤(l.length:Int))&&decide ((l.length:Int)≤b))&&l.all maySl
section
variable {N:Nat}
theorem z10c {l:List zc} (h:roomS N l) (a b:Int):z7b N l a b=some (zd7 l a b):=by
  unfold z7b zd7
  rw [z150 h]
  simp only [z4l,Option.bind_some]
  cases decide (a≤(l.length:Int))<;>cases decide ((l.length:Int)≤b)<;>cases l.all maySl<;>rfl
end
def zBa:zu:=⟨0,0⟩
def zEn:z9:=⟨0,0,0,zOp,0,0,[],zEp,0,zV,0,zPt,0,0,0⟩
def bareM (m:GMsg):GMsg :=
  bif m.Kind==1 then ⟨m.Kind,m.From,m.To,m.Ballot,m.Slot,[],zEn,0,zV,0,0,[],zEp,zPt⟩ else
  bif m.Kind==2 then ⟨m.Kind,m.From,m.To,m.Ballot,m.Slot,m.List_,zEn,0,zV,0,0,[],zEp,zPt⟩ else
  bif m.Kind==3 then ⟨m.Kind,m.From,m.To,m.Ballot,0,m.List_,zEn,0,zV,0,0,[],zEp,zPt⟩ else
  bif m.Kind==4 then ⟨m.Kind,m.From,m.To,m.Ballot,m.Slot,[],zEn,0,zV,0,0,[],zEp,zPt⟩ else
  bif m.Kind==5 then ⟨m.Kind,m.From,m.To,m.Ballot,0,[],zEn,0,zV,0,0,[],zEp,zPt⟩ else
  bif m.Kind==6 then ⟨m.Kind,m.From,m.To,zBa,0,m.List_,zEn,0,zV,0,0,[],zEp,zPt⟩ else
  bif m.Kind==7 then ⟨m.Kind,m.From,m.To,m.Ballot,m.Slot,[],zEn,0,zV,0,0,[],zEp,zPt⟩ else
  bif m.Kind==8 then ⟨m.Kind,m.From,m.To,zBa,m.Slot,[],zEn,0,zV,0,0,[],zEp,zPt⟩ else
  bif m.Kind==9 then ⟨m.Kind,m.From,m.To,zBa,0,[],m.Entry,0,zV,0,0,[],zEp,zPt⟩ else
  bif m.Kind==10 then ⟨m.Kind,m.From,m.To,zBa,0,[],zEn,m.Number,m.Vector_,m.Clock,0,[],zEp,zPt⟩ else
  bif m.Kind==11 then ⟨m.Kind,m.From,m.To,zBa,m.Slot,[],zEn,m.Number,zV,0,m.Origin,m.Ops,zEp,zPt⟩ else
  bif m.Kind==12 then ⟨m.Kind,m.From,m.To,zBa,0,[],zEn,0,zV,0,0,[],m.Epoch,zPt⟩ else
  bif m.Kind==13 then ⟨m.Kind,m.From,m.To,zBa,0,[],zEn,0,zV,0,0,[],zEp,m.Part⟩ else
  bif m.Kind==14 then ⟨m.Kind,m.From,m.To,zBa,0,[],zEn,m.Number,m.Vector_,0,0,[],zEp,zPt⟩ else
  bif m.Kind==15 then ⟨m.Kind,m.From,m.To,zBa,m.Slot,[],zEn,0,zV,0,0,[],zEp,m.Part⟩ else
  ⟨m.Kind,m.From,m.To,zBa,0,[],zEn,0,zV,0,0,[],zEp,zPt⟩
def spM (m:GMsg):Bool :=
  bif m.Kind==3 then ((m.List_.length:Int)==1) else
  bif m.Kind==6 then decide (1≤(m.List_.length:Int)) else
  bif m.Kind==11 then decide (sit m.Origin)&&decide (zed m.Ops) else
  bif m.Kind==12 then decide (MayEp m.Epoch) else
  bif m.Kind==13 then decide (MayPt m.Part) else
  bif m.Kind==15 then decide (MayPt m.Part) else true
def sp2 (m:GMsg):Bool :=
  bif m.Kind==2 then zd7 m.List_ 0 4096 else
  bif m.Kind==3 then zd7 m.List_ 1 1 else
  bif m.Kind==6 then zd7 m.List_ 1 4096 else
  bif m.Kind==9 then mayEn m.Entry else
  bif m.Kind==11 then decide (sit m.Origin)&&decide (zed m.Ops) else
  bif m.Kind==12 then decide (MayEp m.Epoch) else
  bif m.Kind==13 then decide (MayPt m.Part) else
  bif m.Kind==15 then decide (MayPt m.Part) else true
def kindM (m:GMsg):Prop:=1≤m.Kind∧m.Kind≤15
instance (m:GMsg):Decidable (kindM m):=by unfold kindM; infer_instance
def numM (b:GMsg):Bool:=decide (MayBa b.Ballot)&&(decide (cnt b.Slot)&&decide (cnt b.Number)&&decide (cnt b.Clock))&&decide (zeu b.Vector_)
def mayM (m:GMsg):Bool:=decide (kindM m)&&sameM m (bareM m)&&(decide (MayAd m.From)&&decide (MayAd m.To))&&numM m&&sp2 m
theorem z121 {m:GMsg} (h:kindM m):m.Kind=1∨m.Kind=2∨m.Kind=3∨m.Kind=4∨m.Kind=5∨m.Kind=6∨m.Kind=7∨m.Kind=8∨m.Kind=9∨m.Kind=10∨m.Kind=11∨m.Kind=12∨m.Kind=13∨m.Kind=14∨m.Kind=15:=by unfold kindM at h; omega
theorem zd8:mayEn zEn=true:=by kernel_rfl
section
variable {N:Nat}
theorem checkH_eq (hN:20≤N) {o:Bool} {m x b:GMsg} (hb:roomM N b):z9n N x ⟨o,m,b⟩=some (bif (((o&&numM b)&&zd7 b.List_ 0 4096)&&mayEn b.Entry)&&sameM b m then 0 else 40):=by
  have h3:z14 N [b.Slot,b.Number,b.Clock]=some (decide (cnt b.Slot)&&decide (cnt b.Number)&&decide (cnt b.Clock)):=by
    rw [zpt (by simp; omega) (by simp)]; simp [Bool.and_assoc]
  have h8:z14 N b.Vector_.toList=some (decide (zeu b.Vector_)):=by
    rw [zpt (by simp; omega) (by simp),zts]
  unfold z9n numM
  simp only [zu9 hN,h3,h8,z10c hb.1,zxd hb.2.1,z14z hb,z4l,Option.bind_some,z9h]
  generalize decide (MayBa b.Ballot)=p1
  generalize (decide (cnt b.Slot)&&decide (cnt b.Number)&&decide (cnt b.Clock))=p2
  generalize decide (zeu b.Vector_)=p3
  generalize zd7 b.List_ 0 4096=p4
  generalize mayEn b.Entry=p5
  generalize sameM b m=p6
  cases o<;>cases p1<;>cases p2<;>cases p3<;>cases p4<;>cases p5<;>cases p6<;>rfl
theorem z151 {m:GMsg} (h:roomM N m) (hN:20≤N):roomM N (bareM m):=by
  obtain ⟨h1,h2,h3,h4⟩:=h
  have r1:roomS N ([]:List zc):=⟨by simp; omega,by simp,fun x hx=>by cases hx⟩
  have r2:zEn.Ops.length+20≤N∧zEn.Ops.length≤9223372036854775807∧byt zEn.Part.Data:=⟨by simpa [zEn] using hN,by simp [zEn],fun x hx=>by cases hx⟩
  have r3:([]:List GOp).length+20≤N∧([]:List GOp).length≤9223372036854775807:=⟨by simpa using hN,by simp⟩
  have r4:byt zPt.Data:=fun x hx=>by cases hx
  unfold bareM
  repeat' (refine (show ∀ (c:Bool) (x y:GMsg),roomM N x→roomM N y→roomM N (bif c then x else y) from fun c x y hx hy=>by cases c<;>assumption) _ _ _ ?_ ?_)
  all_goals exact ⟨by first | exact h1 | exact r1,by first | exact h2 | exact r2,by first | exact h3 | exact r3,by first | exact h4 | exact r4⟩
theorem checkG_eq (hN:20≤N) {m:GMsg} (hk:kindM m) (hops:m.Ops.length+20≤N) (hl:m.Ops.length≤9223372036854775807):z11 N m=some (.inl ⟨(decide (MayAd m.From)&&decide (MayAd m.To))&&spM m,m,bareM m⟩):=by
  have ha:=fun a b=>zyx hN a b
  have hs1:=fun a=>siteL (N:=N) (l:=[a]) (by simp; omega) (by simp)
  have hop:=z11y (N:=N) (l:=m.Ops) (by omega) hl
  have hep:=fun x=>zxb (N:=N) (by omega) x
  have hpt:=fun x=>zyw (N:=N) (by omega) x
  have hk':=z121 hk
  obtain ⟨kd,a2,a3,a4,a5,a6,a7,a8,a9,a10,a11,a12,a13,a14⟩:=m
  simp only at hk' hop
  rcases hk' with rfl | rfl | rfl | rfl | rfl | rfl | rfl | rfl | rfl | rfl | rfl | rfl | rfl | rfl | rfl
  · have hz:z11 N (⟨1,a2,a3,a4,a5,a6,a7,a8,a9,a10,a11,a12,a13,a14⟩:GMsg)=((z1d N [a2,a3]).bind fun r1=>some (.inl ⟨r1,(⟨1,a2,a3,a4,a5,a6,a7,a8,a9,a10,a11,a12,a13,a14⟩:GMsg),bareM (⟨1,a2,a3,a4,a5,a6,a7,a8,a9,a10,a11,a12,a13,a14⟩:GMsg)⟩)):=rfl
    rw [hz,ha,Option.bind_some]
    rw [show spM (⟨1,a2,a3,a4,a5,a6,a7,a8,a9,a10,a11,a12,a13,a14⟩:GMsg)=true from rfl]
    rw [Bool.and_true]
  · have hz:z11 N (⟨2,a2,a3,a4,a5,a6,a7,a8,a9,a10,a11,a12,a13,a14⟩:GMsg)=((z1d N [a2,a3]).bind fun r1=>some (.inl ⟨r1,(⟨2,a2,a3,a4,a5,a6,a7,a8,a9,a10,a11,a12,a13,a14⟩:GMsg),bareM (⟨2,a2,a3,a4,a5,a6,a7,a8,a9,a10,a11,a12,a13,a14⟩:GMsg)⟩)):=rfl
    rw [hz,ha,Option.bind_some]
    rw [show spM (⟨2,a2,a3,a4,a5,a6,a7,a8,a9,a10,a11,a12,a13,a14⟩:GMsg)=true from rfl]
    rw [Bool.and_true]
  · have hz:z11 N (⟨3,a2,a3,a4,a5,a6,a7,a8,a9,a10,a11,a12,a13,a14⟩:GMsg)=((z1d N [a2,a3]).bind fun r1=>some (.inl ⟨(r1&&((a6.length:Int)==1)),(⟨3,a2,a3,a4,a5,a6,a7,a8,a9,a10,a11,a12,a13,a14⟩:GMsg),bareM (⟨3,a2,a3,a4,a5,a6,a7,a8,a9,a10,a11,a12,a13,a14⟩:GMsg)⟩)):=rfl
    rw [hz,ha,Option.bind_some]
    rw [show spM (⟨3,a2,a3,a4,a5,a6,a7,a8,a9,a10,a11,a12,a13,a14⟩:GMsg)=((a6.length:Int)==1) from rfl]
  · have hz:z11 N (⟨4,a2,a3,a4,a5,a6,a7,a8,a9,a10,a11,a12,a13,a14⟩:GMsg)=((z1d N [a2,a3]).bind fun r1=>some (.inl ⟨r1,(⟨4,a2,a3,a4,a5,a6,a7,a8,a9,a10,a11,a12,a13,a14⟩:GMsg),bareM (⟨4,a2,a3,a4,a5,a6,a7,a8,a9,a10,a11,a12,a13,a14⟩:GMsg)⟩)):=rfl
    rw [hz,ha,Option.bind_some]
    rw [show spM (⟨4,a2,a3,a4,a5,a6,a7,a8,a9,a10,a11,a12,a13,a14⟩:GMsg)=true from rfl]
    rw [Bool.and_true]
  · have hz:z11 N (⟨5,a2,a3,a4,a5,a6,a7,a8,a9,a10,a11,a12,a13,a14⟩:GMsg)=((z1d N [a2,a3]).bind fun r1=>some (.inl ⟨r1,(⟨5,a2,a3,a4,a5,a6,a7,a8,a9,a10,a11,a12,a13,a14⟩:GMsg),bareM (⟨5,a2,a3,a4,a5,a6,a7,a8,a9,a10,a11,a12,a13,a14⟩:GMsg)⟩)):=rfl
    rw [hz,ha,Option.bind_some]
    rw [show spM (⟨5,a2,a3,a4,a5,a6,a7,a8,a9,a10,a11,a12,a13,a14⟩:GMsg)=true from rfl]
    rw [Bool.and_true]
  · have hz:z11 N (⟨6,a2,a3,a4,a5,a6,a7,a8,a9,a10,a11,a12,a13,a14⟩:GMsg)=((z1d N [a2,a3]).bind fun r1=>some (.inl ⟨(r1&&(decide (1≤(a6.length:Int)))),(⟨6,a2,a3,a4,a5,a6,a7,a8,a9,a10,a11,a12,a13,a14⟩:GMsg),bareM (⟨6,a2,a3,a4,a5,a6,a7,a8,a9,a10,a11,a12,a13,a14⟩:GMsg)⟩)):=rfl
    rw [hz,ha,Option.bind_some]
    rw [show spM (⟨6,a2,a3,a4,a5,a6,a7,a8,a9,a10,a11,a12,a13,a14⟩:GMsg)=decide (1≤(a6.length:Int)) from rfl]
  · have hz:z11 N (⟨7,a2,a3,a4,a5,a6,a7,a8,a9,a10,a11,a12,a13,a14⟩:GMsg)=((z1d N [a2,a3]).bind fun r1=>some (.inl ⟨r1,(⟨7,a2,a3,a4,a5,a6,a7,a8,a9,a10,a11,a12,a13,a14⟩:GMsg),bareM (⟨7,a2,a3,a4,a5,a6,a7,a8,a9,a10,a11,a12,a13,a14⟩:GMsg)⟩)):=rfl
    rw [hz,ha,Option.bind_some]
    rw [show spM (⟨7,a2,a3,a4,a5,a6,a7,a8,a9,a10,a11,a12,a13,a14⟩:GMsg)=true from rfl]
    rw [Bool.and_true]
  · have hz:z11 N (⟨8,a2,a3,a4,a5,a6,a7,a8,a9,a10,a11,a12,a13,a14⟩:GMsg)=((z1d N [a2,a3]).bind fun r1=>some (.inl ⟨r1,(⟨8,a2,a3,a4,a5,a6,a7,a8,a9,a10,a11,a12,a13,a14⟩:GMsg),bareM (⟨8,a2,a3,a4,a5,a6,a7,a8,a9,a10,a11,a12,a13,a14⟩:GMsg)⟩)):=rfl
    rw [hz,ha,Option.bind_some]
    rw [show spM (⟨8,a2,a3,a4,a5,a6,a7,a8,a9,a10,a11,a12,a13,a14⟩:GMsg)=true from rfl]
    rw [Bool.and_true]
  · have hz:z11 N (⟨9,a2,a3,a4,a5,a6,a7,a8,a9,a10,a11,a12,a13,a14⟩:GMsg)=((z1d N [a2,a3]).bind fun r1=>some (.inl ⟨r1,(⟨9,a2,a3,a4,a5,a6,a7,a8,a9,a10,a11,a12,a13,a14⟩:GMsg),bareM (⟨9,a2,a3,a4,a5,a6,a7,a8,a9,a10,a11,a12,a13,a14⟩:GMsg)⟩)):=rfl
    rw [hz,ha,Option.bind_some]
    rw [show spM (⟨9,a2,a3,a4,a5,a6,a7,a8,a9,a10,a11,a12,a13,a14⟩:GMsg)=true from rfl]
    rw [Bool.and_true]
  · have hz:z11 N (⟨10,a2,a3,a4,a5,a6,a7,a8,a9,a10,a11,a12,a13,a14⟩:GMsg)=((z1d N [a2,a3]).bind fun r1=>some (.inl ⟨r1,(⟨10,a2,a3,a4,a5,a6,a7,a8,a9,a10,a11,a12,a13,a14⟩:GMsg),bareM (⟨10,a2,a3,a4,a5,a6,a7,a8,a9,a10,a11,a12,a13,a14⟩:GMsg)⟩)):=rfl
    rw [hz,ha,Option.bind_some]
    rw [show spM (⟨10,a2,a3,a4,a5,a6,a7,a8,a9,a10,a11,a12,a13,a14⟩:GMsg)=true from rfl]
    rw [Bool.and_true]
  · have hz:z11 N (⟨11,a2,a3,a4,a5,a6,a7,a8,a9,a10,a11,a12,a13,a14⟩:GMsg)=((z1d N [a2,a3]).bind fun r1=>((bif r1 then z1w N [a11] else some default).bind fun r2=>((bif (r1&&r2) then z4j N a12 1 else some default).bind fun r3=>some (.inl ⟨((r1&&r2)&&r3),(⟨11,a2,a3,a4,a5,a6,a7,a8,a9,a10,a11,a12,a13,a14⟩:GMsg),bareM (⟨11,a2,a3,a4,a5,a6,a7,a8,a9,a10,a11,a12,a13,a14⟩:GMsg)⟩)))):=rfl
    rw [hz,ha,Option.bind_some]
    rw [show spM (⟨11,a2,a3,a4,a5,a6,a7,a8,a9,a10,a11,a12,a13,a14⟩:GMsg)=(decide (sit a11)&&decide (zed a12)) from rfl]
    simp only [hs1,hop,hep,hpt,z4l,Option.bind_some,z9h,List.all_cons,List.all_nil,Bool.and_true]
    rw [Bool.and_assoc]
  · have hz:z11 N (⟨12,a2,a3,a4,a5,a6,a7,a8,a9,a10,a11,a12,a13,a14⟩:GMsg)=((z1d N [a2,a3]).bind fun r1=>((bif r1 then z38 N a13 else some default).bind fun r4=>some (.inl ⟨(r1&&r4),(⟨12,a2,a3,a4,a5,a6,a7,a8,a9,a10,a11,a12,a13,a14⟩:GMsg),bareM (⟨12,a2,a3,a4,a5,a6,a7,a8,a9,a10,a11,a12,a13,a14⟩:GMsg)⟩))):=rfl
    rw [hz,ha,Option.bind_some]
    rw [show spM (⟨12,a2,a3,a4,a5,a6,a7,a8,a9,a10,a11,a12,a13,a14⟩:GMsg)=decide (MayEp a13) from rfl]
    simp only [hs1,hop,hep,hpt,z4l,Option.bind_some,z9h,List.all_cons,List.all_nil,Bool.and_true]
  · have hz:z11 N (⟨13,a2,a3,a4,a5,a6,a7,a8,a9,a10,a11,a12,a13,a14⟩:GMsg)=((z1d N [a2,a3]).bind fun r1=>((bif r1 then z25 N a14 else some default).bind fun r5=>some (.inl ⟨(r1&&r5),(⟨13,a2,a3,a4,a5,a6,a7,a8,a9,a10,a11,a12,a13,a14⟩:GMsg),bareM (⟨13,a2,a3,a4,a5,a6,a7,a8,a9,a10,a11,a12,a13,a14⟩:GMsg)⟩))):=rfl
    rw [hz,ha,Option.bind_some]
    rw [show spM (⟨13,a2,a3,a4,a5,a6,a7,a8,a9,a10,a11,a12,a13,a14⟩:GMsg)=decide (MayPt a14) from rfl]
    simp only [hs1,hop,hep,hpt,z4l,Option.bind_some,z9h,List.all_cons,List.all_nil,Bool.and_true]
  · have hz:z11 N (⟨14,a2,a3,a4,a5,a6,a7,a8,a9,a10,a11,a12,a13,a14⟩:GMsg)=((z1d N [a2,a3]).bind fun r1=>some (.inl ⟨r1,(⟨14,a2,a3,a4,a5,a6,a7,a8,a9,a10,a11,a12,a13,a14⟩:GMsg),bareM (⟨14,a2,a3,a4,a5,a6,a7,a8,a9,a10,a11,a12,a13,a14⟩:GMsg)⟩)):=rfl
    rw [hz,ha,Option.bind_some]
    rw [show spM (⟨14,a2,a3,a4,a5,a6,a7,a8,a9,a10,a11,a12,a13,a14⟩:GMsg)=true from rfl]
    rw [Bool.and_true]
  · have hz:z11 N (⟨15,a2,a3,a4,a5,a6,a7,a8,a9,a10,a11,a12,a13,a14⟩:GMsg)=((z1d N [a2,a3]).bind fun r1=>((bif r1 then z25 N a14 else some default).bind fun r5=>some (.inl ⟨(r1&&r5),(⟨15,a2,a3,a4,a5,a6,a7,a8,a9,a10,a11,a12,a13,a14⟩:GMsg),bareM (⟨15,a2,a3,a4,a5,a6,a7,a8,a9,a10,a11,a12,a13,a14⟩:GMsg)⟩))):=rfl
    rw [hz,ha,Option.bind_some]
    rw [show spM (⟨15,a2,a3,a4,a5,a6,a7,a8,a9,a10,a11,a12,a13,a14⟩:GMsg)=decide (MayPt a14) from rfl]
    simp only [hs1,hop,hep,hpt,z4l,Option.bind_some,z9h,List.all_cons,List.all_nil,Bool.and_true]
theorem z152 (hN:20≤N) {m:GMsg} (hk:¬ kindM m):∃ b,z11 N m=some (.inl ⟨false,m,b⟩):=by
  have hne:∀ k:Int,1≤k→k≤15→(m.Kind==k)=false:=fun k h0 h8=>by
    refine beq_eq_false_iff_ne.2 fun h=>hk ?_
    unfold kindM; omega
  unfold z11
  rw [zyx hN,Option.bind_some,hne 1 (by decide) (by decide),hne 2 (by decide) (by decide),hne 3 (by decide) (by decide),hne 4 (by decide) (by decide),hne 5 (by decide) (by decide),hne 6 (by decide) (by decide),hne 7 (by decide) (by decide),hne 8 (by decide) (by decide),hne 9 (by decide) (by decide),hne 10 (by decide) (by decide),hne 11 (by decide) (by decide),hne 12 (by decide) (by decide),hne 13 (by decide) (by decide),hne 14 (by decide) (by decide),hne 15 (by decide) (by decide)]
  exact ⟨_,rfl⟩
theorem sp_eq {m:GMsg} (hk:kindM m) (h:m=bareM m):((spM m&&zd7 m.List_ 0 4096)&&mayEn m.Entry)=sp2 m:=by
  have hL:=congrArg GMsg.List_ h
  have hE:=congrArg GMsg.Entry h
  have hk':=z121 hk
  obtain ⟨kd,a2,a3,a4,a5,a6,a7,a8,a9,a10,a11,a12,a13,a14⟩:=m
  simp only at hk'
  rcases hk' with rfl | rfl | rfl | rfl | rfl | rfl | rfl | rfl | rfl | rfl | rfl | rfl | rfl | rfl | rfl
  · replace hL:a6=[]:=hL
    replace hE:a7=zEn:=hE
    rw [hE,hL]
    show ((true&&true)&&mayEn zEn)=true
    rw [zd8,Bool.and_true,Bool.and_true]
  · replace hL:a6=a6:=hL
    replace hE:a7=zEn:=hE
    rw [hE]
    show ((true&&zd7 a6 0 4096)&&mayEn zEn)=zd7 a6 0 4096
    rw [zd8,Bool.and_true]
    rfl
  · replace hL:a6=a6:=hL
    replace hE:a7=zEn:=hE
    rw [hE]
    show ((((a6.length:Int)==1)&&zd7 a6 0 4096)&&mayEn zEn)=zd7 a6 1 1
    rw [zd8,Bool.and_true]
    unfold zd7
    cases a6.all maySl with
    | false=>simp
    | true=>rw [Bool.eq_iff_iff]; simp<;>omega
  · replace hL:a6=[]:=hL
    replace hE:a7=zEn:=hE
    rw [hE,hL]
    show ((true&&true)&&mayEn zEn)=true
    rw [zd8,Bool.and_true,Bool.and_true]
  · replace hL:a6=[]:=hL
    replace hE:a7=zEn:=hE
    rw [hE,hL]
    show ((true&&true)&&mayEn zEn)=true
    rw [zd8,Bool.and_true,Bool.and_true]
  · replace hL:a6=a6:=hL
    replace hE:a7=zEn:=hE
    rw [hE]
    show ((decide (1≤(a6.length:Int))&&zd7 a6 0 4096)&&mayEn zEn)=zd7 a6 1 4096
    rw [zd8,Bool.and_true]
    unfold zd7
    cases a6.all maySl with
    | false=>simp
    | true=>rw [Bool.eq_iff_iff]; simp<;>omega
  · replace hL:a6=[]:=hL
    replace hE:a7=zEn:=hE
    rw [hE,hL]
    show ((true&&true)&&mayEn zEn)=true
    rw [zd8,Bool.and_true,Bool.and_true]
  · replace hL:a6=[]:=hL
    replace hE:a7=zEn:=hE
    rw [hE,hL]
    show ((true&&true)&&mayEn zEn)=true
    rw [zd8,Bool.and_true,Bool.and_true]
  · replace hL:a6=[]:=hL
    replace hE:a7=a7:=hE
    subst hL
    show ((true&&true)&&mayEn a7)=mayEn a7
    rfl
  · replace hL:a6=[]:=hL
    replace hE:a7=zEn:=hE
    rw [hE,hL]
    show ((true&&true)&&mayEn zEn)=true
    rw [zd8,Bool.and_true,Bool.and_true]
  · replace hL:a6=[]:=hL
    replace hE:a7=zEn:=hE
    rw [hE,hL]
    show (((decide (sit a11)&&decide (zed a12))&&true)&&mayEn zEn)=(decide (sit a11)&&decide (zed a12))
    rw [zd8,Bool.and_true,Bool.and_true]
  · replace hL:a6=[]:=hL
    replace hE:a7=zEn:=hE
    rw [hE,hL]
    show ((decide (MayEp a13)&&true)&&mayEn zEn)=decide (MayEp a13)
    rw [zd8,Bool.and_true,Bool.and_true]
  · replace hL:a6=[]:=hL
    replace hE:a7=zEn:=hE
    rw [hE,hL]
    show ((decide (MayPt a14)&&true)&&mayEn zEn)=decide (MayPt a14)
    rw [zd8,Bool.and_true,Bool.and_true]
  · replace hL:a6=[]:=hL
    replace hE:a7=zEn:=hE
    rw [hE,hL]
    show ((true&&true)&&mayEn zEn)=true
    rw [zd8,Bool.and_true,Bool.and_true]
  · replace hL:a6=[]:=hL
    replace hE:a7=zEn:=hE
    rw [hE,hL]
    show ((decide (MayPt a14)&&true)&&mayEn zEn)=decide (MayPt a14)
    rw [zd8,Bool.and_true,Bool.and_true]
theorem z153 {a b:GMsg} (ha:bytM a) (hb:bytM b):sameM a b=sameM b a:=by
  rw [Bool.eq_iff_iff,zoq ha hb,zoq hb ha]; exact eq_comm
theorem zxe (hN:20≤N) {m:GMsg} (h:roomM N m):z9o N m=some (bif mayM m then 0 else 40):=by
  unfold z9o
  by_cases hk:kindM m
  · have hr:=z151 h hN
    rw [checkG_eq hN hk h.2.2.1.1 h.2.2.1.2,Option.bind_some]
    show z9n N m _=_
    rw [checkH_eq hN hr]
    unfold mayM
    rw [decide_eq_true hk,z153 (b:=bareM m) h.byt hr.byt]
    cases hs:sameM (bareM m) m with
    | false=>simp
    | true =>
      have he:m=bareM m:=((zoq hr.byt h.byt).1 hs).symm
      rw [← he,← sp_eq hk he]
      generalize (decide (MayAd m.From)&&decide (MayAd m.To))=p1
      generalize spM m=p2
      generalize numM m=p3
      generalize zd7 m.List_ 0 4096=p4
      generalize mayEn m.Entry=p5
      cases p1<;>cases p2<;>cases p3<;>cases p4<;>cases p5<;>rfl
  · obtain ⟨b,hb⟩:=z152 hN hk
    rw [hb,Option.bind_some]
    unfold mayM
    rw [decide_eq_false hk]
    rfl
end
def sizeM (m:GMsg):Nat:=m.List_.length+(m.List_.map fun x=>x.Entry.Ops.length).sum+m.Entry.Ops.length+m.Ops.length
theorem zyy {N:Nat} {e:z9} (h:wf41 e) (hN:e.Ops.length+60≤N):e.Ops.length+20≤N∧e.Ops.length≤9223372036854775807∧byt e.Part.Data:=by
  obtain ⟨_,_,_,_,_,_,h7,_,_,_,_,h12,_⟩:=h
  exact ⟨by omega,h7.1,h12.2.2.2.1.2⟩
theorem mem_sum {α:Type} (f:α→Nat):∀ {l:List α} {x:α},x∈l→f x≤(l.map f).sum
  | y :: l, x, h => by
    rcases List.mem_cons.1 h with rfl | h
    · simp
    · have:=mem_sum f h; simp only [List.map_cons,List.sum_cons]; omega
theorem roomM_of {N:Nat} {m:GMsg} (h:wf43 m) (hN:sizeM m+60≤N):roomM N m:=by
  obtain ⟨_,_,_,_,_,h6,h7,_,_,_,_,h12,_,h14,_⟩:=h
  unfold sizeM at hN
  refine ⟨⟨by omega,h6.1,fun x hx=>zyy (h6.2 x hx).2.2.1 ?_⟩,zyy h7 (by omega),⟨by omega,h12.1⟩,h14.2.2.2.1.2⟩
  have:=mem_sum (fun x:zc=>x.Entry.Ops.length) hx
  omega
end Go.Proofs.YtddpmkmgbdedlaaGreat
