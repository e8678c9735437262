/-
Windows: CO of a growable box that begin anywhere in it;read,cut,written,cleared.
-/
import Derived.Test.YtddpmkmgbdedlaaGreatqEvK
set_option linter.unusedVariables false
set_option linter.unusedSimpArgs false
namespace Go.Ev
open Go
theorem aAg {E:Env}(hE:E.Ok){g:Gh}{t e:TypeId}{s1 b1 id off len c sz:Nat}{nn:Bool}{z1:List AV}{ei:TI}(ht:E.ty t=some ⟨.slice e,s1,b1,z1⟩)(he:E.ty e=some ei)(Ch:sz=ei.size)
  {vx:Value} {k:IntKind} {i:Int} (hx:aF g (.nG id off len c nn sz) vx) (hb:0≤i∧i < len) (w:World) :
  ∃ v,(Instr.indexAt t vx (.int k i)).run E.P w=.ok v w∧aF g (.ptr id (off+i.toNat * sz)) v:=by
 have Lm:=Vn hx
 have:jL E t (.Fk id off len sz) (.v (.int k i))=some { r:=.ptr id (off+i.toNat * sz),ob:=0≤i∧i < len }:=by
  unfold jL;simp only[ht,he,if_pos Ch]
 obtain⟨v,h1,h2,_⟩:=oT hE Lm (.v _) this hb w
 exact⟨v,h1,h2⟩
theorem aFK {E:Env}(hE:E.Ok){g:Gh}{t e:TypeId}{s1 b1 id off len c sz:Nat}{nn:Bool}{z1:List AV}(ht:E.ty t=some ⟨.slice e,s1,b1,z1⟩){vx:Value}(hx:aF g (.nG id off len c nn sz) vx)(ty:TypeId)(w:World) :
  (Builtin.len_ #[t] ty #[vx]).run E.P w=.ok (.int .i64 len) w :=
 Bt hE (Vn hx) (by unfold OD;simp only[ht]) ty w
theorem VJ {P:Program}{lo hi mx:Option AV}{l h m:Int}{g:Gh}{vlo vhi vmx:Option Value}(len cap:Nat)
  (hl:NP lo 0=some l) (hh:NP hi len=some h) (hm:NP mx cap=some m) (IV:∀ a,lo=some a→∃ v,vlo=some v∧aF g a v) (Mr:lo=none→vlo=none)
  (XH:∀ a,hi=some a→∃ v,vhi=some v∧aF g a v) (Oy:hi=none→vhi=none) (wo:∀ a,mx=some a→∃ v,vmx=some v∧aF g a v) (Tx:mx=none→vmx=none) (Uz:mx.isSome=true→hi.isSome=true)
  (h0:0≤l) (h1:l≤h) (h2:h≤m) (h3:m≤cap) (w:World) :
  (Instr.sliceBounds true len cap vlo vhi vmx).run P w=.ok (l.toNat,h.toNat,m.toNat) w:=by
 have b1:=fun code=>Ky (P:=P) hm wo Tx cap code (by omega) h3 w
 have b2:=fun code=>Ky (P:=P) hh XH Oy m.toNat code (by omega) (by omega) w
 have b3:=fun code=>Ky (P:=P) hl IV Mr h.toNat code h0 (by omega) w
 cases mx with
 |none =>
  have hv:=Tx rfl
  subst hv
  have hmc:m=cap:=by simpa[NP] using hm.symm
  subst hmc
  simp only[Int.toNat_natCast]at b2 ⊢
  simp only[Instr.sliceBounds,pure_bind]
  rcases b2 .sliceAcap with⟨rfl,hd⟩|⟨v,rfl,hv⟩
  ·rcases b3 .sliceB with⟨rfl,hd2⟩|⟨v2,rfl,jx⟩
   ·subst hd;subst hd2;simp
   ·subst hd
    simp only[Int.toNat_natCast]at jx ⊢
    simp[jx]
  ·rcases b3 .sliceB with⟨rfl,hd2⟩|⟨v2,rfl,jx⟩
   ·subst hd2;simp[hv]
   ·simp[hv,jx]
 |some a =>
  obtain⟨v0,rfl,hv0⟩:=wo a rfl
  have e1:(Instr.sliceBound v0 cap .slice3Acap).run P w=.ok m.toNat w:=by
   rcases b1 .slice3Acap with⟨h,_⟩|⟨v,h,hv⟩
   ·cases h
   ·cases h;exact hv
  rcases b2 .slice3B with⟨rfl,hd⟩|⟨v,rfl,hv⟩
  ·cases hi with
   |none=>simp at Uz
   |some x=>obtain⟨y,hy,_⟩:=XH x rfl;cases hy
  ·rcases b3 .slice3C with⟨rfl,hd2⟩|⟨v2,rfl,jx⟩
   ·subst hd2;simp[Instr.sliceBounds,e1,hv]
   ·simp[Instr.sliceBounds,e1,hv,jx]
theorem yd (a:AV)(d d':Int):NP (some a) d=NP (some a) d':=by
 unfold NP
 split<;>simp_all
theorem aAh {E:Env}(hE:E.Ok){g:Gh}{t e:TypeId}{s1 b1 id off len c sz:Nat}{nn:Bool}{z1:List AV}{ei:TI}(ht:E.ty t=some ⟨.slice e,s1,b1,z1⟩)(he:E.ty e=some ei)(Ch:sz=ei.size)
  {vx:Value} (hx:aF g (.nG id off len c nn sz) vx) {lo hi mx:Option AV} {l h m:Int} {vlo vhi vmx:Option Value} (hl:NP lo 0=some l) (hh:NP hi len=some h) (hm:NP mx c=some m)
  (IV:∀ a,lo=some a→∃ v,vlo=some v∧aF g a v) (Mr:lo=none→vlo=none)
  (XH:∀ a,hi=some a→∃ v,vhi=some v∧aF g a v) (Oy:hi=none→vhi=none) (wo:∀ a,mx=some a→∃ v,vmx=some v∧aF g a v) (Tx:mx=none→vmx=none) (Uz:mx.isSome=true→hi.isSome=true)
  (h0:0≤l) (h1:l≤h) (h2:h≤m) (h3:m≤c) (w:World) :
  ∃ v,(Instr.sliceAt t vx vlo vhi vmx).run E.P w=.ok v w∧aF g (.nG id (off+l.toNat * sz) (h.toNat - l.toNat) (m.toNat - l.toNat) (nn || decide (0 < len)) sz) v:=by
 have hT:=hE _ _ ht
 have hF:=hE _ _ he
 subst Ch
 cases hx with
 |nG e1 e2 e3 e4 =>
  rename_i b QU n cap
  -- what the machine takes as the aIT bound
  obtain⟨m',XJ,hm1,hm2⟩:∃ m':Int,NP mx cap=some m'∧m≤m'∧m'≤cap:=by
   cases mx with
   |none =>
    have:m=c:=by simpa[NP] using hm.symm
    exact⟨cap,rfl,by omega,Int.le_refl _⟩
   |some a=>exact⟨m,(yd a _ _).trans hm,Int.le_refl _,by omega⟩
  have hb:=VJ (P:=E.P) (g:=g) len cap hl hh XJ IV Mr XH Oy wo Tx Uz h0 h1 (by omega) hm2 w
  refine⟨_,by simp only[Instr.sliceAt,Sem.run_bind,hT.underlying,Result.andThen_ok,Instr.slice,hb,hF.sizeOf,Sem.run_pure,Option.map_some,mR];rfl,?_⟩
  by_cases hml:m'.toNat=l.toNat
  ·rw[if_pos hml]
   have z1:h.toNat - l.toNat=0:=by omega
   have z2:m.toNat - l.toNat=0:=by omega
   rw[z1,z2,hml,Nat.sub_self]
   exact .Jr (fun _ h=>by cases h)
  ·rw[if_neg hml]
   refine .nG e1 (by omega) (by omega) ?_
   have:l.toNat * ei.size+(m'.toNat - l.toNat) * ei.size≤cap * ei.size:=by
    rw[← Nat.add_mul];exact Nat.mul_le_mul_right _ (by omega)
   omega
 |Jr ha =>
  rename_i a
  have hm0:m=0:=by omega
  have hl0:l=0:=by omega
  have hh0:h=0:=by omega
  subst hm0;subst hl0;subst hh0
  have hb:=VJ (P:=E.P) (g:=g) 0 0 hl hh hm IV Mr XH Oy wo Tx Uz (Int.le_refl _) (Int.le_refl _) (Int.le_refl _) (Int.le_refl _) w
  refine⟨.slice a 0 0,?_,?_⟩
  ·simp only[Instr.sliceAt,Sem.run_bind,hT.underlying,Result.andThen_ok,Instr.slice,hb,hF.sizeOf,Sem.run_pure]
   simp
  ·exact .Jr (fun h=>ha (by simpa using h))
theorem FB (cells:List AV)(off sz:Nat):∀ len:Nat,(chunks cells off len sz).flatten=rd cells off (len * sz)
 |0=>by simp[chunks,rd]
 |n+1=>by
  have e1:chunks cells off (n+1) sz=chunks cells off n sz++[rd cells (off+n * sz) sz]:=by simp[chunks,List.range_succ]
  rw[e1,List.flatten_append,FB cells off sz n]
  simp only[List.flatten_cons,List.flatten_nil,List.append_nil,rd]
  rw[Nat.succ_mul,List.take_add,List.drop_drop]
theorem gj {cells:List AV}{off len sz i:Nat}{cs:List AV}(h:(chunks cells off len sz)[i]?=some cs):i < len∧cs=rd cells (off+i * sz) sz:=by
 simp[chunks]at h
 obtain⟨a,h3,h4⟩:=h
 by_cases hi:i < len
 ·rw[List.getElem?_range hi]at h3;cases h3;exact⟨hi,h4.symm⟩
 ·rw[List.getElem?_eq_none (by simp;omega)]at h3;cases h3
theorem Ra.heap {P:Program}{g:Gh}{H:Nat→dD}{w:World}(hW:eR g H w){id off len c sz:Nat}{nn:Bool}{vx:Value}(hx:aF g (.nG id off len c nn sz) vx){cells:List AV}(hH:H id=.eD cells)(hl:off+len * sz≤cells.length) :
  Ra P g w sz (chunks cells off len sz) vx:=by
 have RL:(chunks cells off len sz).length=len:=by simp[chunks]
 have Ch:∀ (i:Nat) (cs:List AV),(chunks cells off len sz)[i]?=some cs→cs.length=sz:=fun i cs h=>by
  obtain⟨hi,rfl⟩:=gj h
  have:i * sz+sz≤len * sz:=by rw[← Nat.succ_mul];exact Nat.mul_le_mul_right _ hi
  simp[rd];omega
 rw[show Ra P g w sz (chunks cells off len sz) vx=Ra P g w sz (chunks cells off len sz) vx from rfl]
 cases hx with
 |nG e1 e2 e3 e4 =>
  rename_i b lo n cap
  have Fs:=hW.zD id
  rw[hH]at Fs
  rcases Fs with⟨e0,_⟩|⟨b',n'',bc,T,fr,f1,f2,f3,f4,f5,f6,f7⟩
  ·rw[e1]at e0;cases e0
  rw[e1]at f1;cases f1
  refine⟨fun d=>by rw[RL];simp[Builtin.lenOf],Ch,fun d=>?_⟩
  refine⟨((List.range (len * sz)).map fun j=>(w.cell? ⟨b,off+j,none⟩).getD undef).toArray,?_,?_⟩
  ·rw[RL]
   simp only[Builtin.firstCells]
   refine run_loadCells _ _ _ _ fun j hj=>?_
   rw[mR]
   obtain⟨c',h1,_⟩:=f6 (off+j) _ (List.getElem?_eq_getElem (show off+j < cells.length by omega))
   show w.cell? _=_
   rw[bL f2,h1];rfl
  ·rw[FB]
   refine⟨by simp[rd];omega,fun j y c' hy hc=>?_⟩
   rw[uU]at hy
   split at hy
   ·rename_i nH
    obtain⟨c2,h1,h2⟩:=f6 (off+j) y hy
    simp only[List.getElem?_map,List.getElem?_range nH,Option.map_some,Option.some.injEq]at hc
    rw[bL f2,h1]at hc
    simp only[Option.getD_some]at hc
    subst hc;exact h2
   ·cases hy
 |Jr ha =>
  rename_i a
  have e:chunks cells off 0 sz=[]:=by simp[chunks]
  rw[e]
  refine⟨fun d=>by simp[Builtin.lenOf],by simp,fun d=>⟨#[],?_,.nil⟩⟩
  cases a<;>simp[Builtin.firstCells,loadCells,loadCellsFrom]
theorem fC.putM {g:Gh}{H:Nat→dD}{w:World}(h:eR g H w){id b n off:Nat}{cells cells':List AV}{vs:List Value}(gY:H id=.eD cells)(gO:g.ρ id=some (b,0,n))
  (hlen:cells'.length≤n) (hn:off+vs.length≤n)
  (hc:∀ (j:Nat) (x:AV),cells'[j]?=some x→((j < off∨off+vs.length≤j)∧cells[j]?=some x)∨(off≤j∧j < off+vs.length∧∃ v,vs[j - off]?=some v∧aF g x v)) :
  fC g H w g (eQ H id (.eD cells')) (w.setCells b off vs):=by
 have he:=h.zD id
 rw[gY]at he
 rcases he with⟨e0,_⟩|⟨b',n',cs,T,fr,e1,e2,e3,e4,e5,e6,e7⟩
 ·rw[gO]at e0;cases e0
 rw[gO]at e1;cases e1
 have Oc:(H id).live:=by rw[gY];trivial
 have hM:∀ k,Jx g H b k:=fun k=>⟨id,0,n,Oc,gO,Nat.zero_le _⟩
 have eE:∀ k,(eQ H id (.eD cells') k).live→(H k).live:=fun k hk=>by
  by_cases e:k=id
  ·subst e;exact Oc
  ·rw[aM _ _ e]at hk;exact hk
 refine⟨g.le_refl,⟨fun b1 o v e=>?_,fun k=>?_,fun k hk=>?_,fun k k' x x' dF hl oI e e'=>h.inj k k' x x' dF (eE k hl) (eE k' oI) e e'⟩,.setCells w b off vs e2 fun k _ _=>hM k,
  fun b o v e=>.inl e,fun k b lo n hl e=>.inr ⟨k,lo,n,eE k hl,e,Nat.le_refl _⟩⟩
 ·have UJ:b1≠b:=fun hb=>by subst hb;rw[e7]at e;cases e
  obtain⟨Ju,T',UH,h1,h2⟩:=fB (h.AY b1 o v e)
  rw[bL (by rw[cQ _ _ _ _ _ UJ];exact h1)]
  exact h2
 ·by_cases hk:k=id
  ·subst hk
   rw[aP]
   refine .inr ⟨b,n,_,T,fr,gO,fL vs w b off cs T fr e2,(jT _ _ _).trans e3,e4,hlen,fun j x hj=>?_,e7⟩
   rcases hc j x hj with⟨ah,ub⟩|⟨h1,h2,v,h3,h4⟩
   ·rw[iG _ _ _ _ (by omega)];exact e6 j x ub
   ·refine⟨v,?_,h4⟩
    have:=xC vs cs off (j - off) (by omega) (by omega)
    rw[show off+(j - off)=j by omega]at this
    rw[this];exact h3
  ·rw[aM _ _ hk]
   refine (h.zD k).iO g.le_refl (fun _=>rfl) fun b1 lo n1 hl e=>⟨?_,fun _ _=>rfl⟩
   exact cQ _ _ _ _ _ (h.inj k id _ _ hk hl Oc e gO)
 ·by_cases e:k=id
  ·subst e;simp at hk
  ·rw[aM _ _ e]at hk;exact h.fresh k hk
theorem fC.Zj {g:Gh}{H:Nat→dD}{w:World}(h:eR g H w){id:Nat}{cells cells':List AV}(gY:H id=.eD cells)(hlen:cells'.length≤cells.length)(hc:∀ (j:Nat) (x:AV),cells'[j]?=some x→cells[j]?=some x) :
  fC g H w g (eQ H id (.eD cells')) w:=by
 have Oc:(H id).live:=by rw[gY];trivial
 have eE:∀ k,(eQ H id (.eD cells') k).live→(H k).live:=fun k hk=>by
  by_cases e:k=id
  ·subst e;exact Oc
  ·rw[aM _ _ e]at hk;exact hk
 refine⟨g.le_refl,⟨h.AY,fun k=>?_,fun k hk=>?_,fun k k' x x' dF hl oI e e'=>h.inj k k' x x' dF (eE k hl) (eE k' oI) e e'⟩,.refl _ _,fun b o v e=>.inl e,fun k b lo n hl e=>.inr ⟨k,lo,n,eE k hl,e,Nat.le_refl _⟩⟩
 ·by_cases hk:k=id
  ·subst hk
   rw[aP]
   have he:=h.zD k
   rw[gY]at he
   rcases he with⟨e0,e1⟩|⟨b',n',cs,T,fr,e1,e2,e3,e4,e5,e6,e7⟩
   ·exact .inl ⟨e0,List.eq_nil_of_length_eq_zero (by rw[e1]at hlen;simpa using hlen)⟩
   ·exact .inr ⟨b',n',cs,T,fr,e1,e2,e3,e4,by omega,fun j x hj=>e6 j x (hc j x hj),e7⟩
  ·rw[aM _ _ hk];exact h.zD k
 ·by_cases e:k=id
  ·subst e;simp at hk
  ·rw[aM _ _ e]at hk;exact h.fresh k hk
theorem aAf {E:Env}(hE:E.Ok){g:Gh}{H:Nat→dD}{w:World}(hW:eR g H w){t e:TypeId}{s1 b1 id off len c:Nat}{nn:Bool}{z1:List AV}{ei:TI}(ht:E.ty t=some ⟨.slice e,s1,b1,z1⟩)(he:E.ty e=some ei)
  {vx:Value} (hx:aF g (.nG id off len c nn ei.size) vx) {cells cells':List AV} (hH:H id=.eD cells) (Kn:∀ (g:Gh) (cs:List Value),cW g ei.zero cs→∀ c∈cs,c.oneCell'=true) (hlen:cells'.length≤cells.length)
  (hc:∀ (j:Nat) (x:AV),cells'[j]?=some x→((j < off∨off+len * ei.size≤j)∧cells[j]?=some x)∨(off≤j∧j < off+len * ei.size∧∀ a,(List.replicate len ei.zero).flatten[j - off]?=some a→∀ g v,aF g a v→aF g x v)) (ty:TypeId) :
  ∃ w',(Builtin.clear_ #[t] ty #[vx]).run E.P w=.ok (.tuple #[]) w'∧fC g H w g (eQ H id (.eD cells')) w':=by
 have hT:=hE _ _ ht
 have hF:=hE _ _ he
 obtain⟨info,Bv,RN,Qn,z,hz,OP⟩:=hF.info
 have Ty:z.cells.size=ei.size:=by have:=(OP g).1;rw[hF.zl]at this;simpa using this.symm
 have none_:len=0→fC g H w g (eQ H id (.eD cells')) w:=fun h0=>fC.Zj hW hH hlen fun j x hj=>by
  subst h0
  rcases hc j x hj with⟨_,h⟩|⟨h1,h2,_⟩
  ·exact h
  ·omega
 cases hx with
 |nG e1 e2 e3 e4 =>
  rename_i b lo n cap
  by_cases h0:len=0
  ·refine⟨w,?_,none_ h0⟩
   subst h0
   simp only[Builtin.clear_,List.getElem?_toArray,List.getElem?_cons_zero,Sem.run_bind,hT.underlying,Result.andThen_ok,Sem.run_pure]
  ·have Fs:=hW.zD id
   rw[hH]at Fs
   rcases Fs with⟨e0,_⟩|⟨b',n'',bc,T,fr,f1,f2,f3,f4,f5,f6,f7⟩
   ·rw[e1]at e0;cases e0
   rw[e1]at f1;cases f1
   have hmul:len * ei.size≤cap * ei.size:=Nat.mul_le_mul_right _ (Nat.le_trans e2 e3)
   have q0:(Builtin.zeroCells z.cells len).toList=(List.replicate len z.cells.toList).flatten:=by
    have q1:Builtin.zeroCells z.cells len=madeCells z.cells (len * z.cells.size):=rfl
    rw[q1,Ty,IH Ty]
   have wU:cW g (List.replicate len ei.zero).flatten (Builtin.zeroCells z.cells len).toList:=by
    rw[q0]
    exact Uw (OP g) _
   have hvl:(Builtin.zeroCells z.cells len).toList.length=len * ei.size:=by rw[Array.length_toList,size_zeroCells,Ty]
   have iI:∀ c∈(Builtin.zeroCells z.cells len).toList,c.oneCell'=true:=by
    rw[q0]
    intro c hc
    obtain⟨l,h1,h2⟩:=List.mem_flatten.1 hc
    rw[(List.mem_replicate.1 h1).2]at h2
    exact Kn g _ (OP g) c h2
   have sQ:=run_storeCells_cells (P:=E.P) b off (Builtin.zeroCells z.cells len).toList 0 w (fun j hj=>by
     rw[hvl]at hj
     rw[bL f2]
     simp[show off+j < bc.size by omega])
    (fun j hj=>by
     rw[hvl]at hj
     simp only[World.frozen?,f2]
     have:=f4 (off+j) (by omega) (by omega)
     simpa using this)
    iI
   refine⟨_,?_,fC.putM (off:=off) (vs:=(Builtin.zeroCells z.cells len).toList) hW hH e1 (by omega) (by rw[hvl];omega) fun j x hj=>?_⟩
   ·obtain⟨m,rfl⟩:∃ m,len=m+1:=⟨len - 1,by omega⟩
    simp only[Builtin.clear_,List.getElem?_toArray,List.getElem?_cons_zero,Sem.run_bind,hT.underlying,Result.andThen_ok,zeroValue,typeInfo,run_program,Bv,hz,Sem.run_pure,pure_bind,sQ,Nat.add_zero]
   ·rw[hvl]
    rcases hc j x hj with h|⟨h1,h2,h3⟩
    ·exact .inl h
    ·refine .inr ⟨h1,h2,?_⟩
     obtain⟨v,q1,q2⟩:=wU.get (k:=j - off) (List.getElem?_eq_getElem (by rw[wU.1,hvl];omega))
     exact⟨v,q1,h3 _ (List.getElem?_eq_getElem (by rw[wU.1,hvl];omega)) g v q2⟩
 |Jr ha =>
  refine⟨w,?_,none_ rfl⟩
  rename_i a
  cases a<;>simp only[Builtin.clear_,List.getElem?_toArray,List.getElem?_cons_zero,Sem.run_bind,hT.underlying,Result.andThen_ok,Sem.run_pure]
theorem mq {g:Gh}{id off len c sz:Nat}{nn:Bool}{v:Value}(h:aF g (.nG id off len c nn sz) v)(hn:(nn || Nat.blt 0 len)=true):aF g (.VA 0 (List.replicate len [])) v:=by
 cases h with
 |nG e h1 h2 h3 =>
  exact .VA (.xA (.sl (fun _ _=>undef) (by simp) (Nat.le_trans h1 h2) (fun i cs h=>by rw[List.getElem?_replicate]at h;split at h<;>simp at h;simp[← h]) (fun i cs k x h hx=>by rw[List.getElem?_replicate]at h;split at h<;>simp at h;subst h;simp at hx)
   (fun i cs k x h hx=>by rw[List.getElem?_replicate]at h;split at h<;>simp at h;subst h;simp at hx) trivial)) (by simp)
 |Jr h1 =>
  cases nn with
  |false=>cases hn
  |true=>exact .VA .Jt (by have:=h1 rfl;simpa using this)
theorem aCw {E:Env}(hE:E.Ok){g:Gh}{w:World}{src dst e:TypeId}{s1 b1 s2 b2 s3 b3 id off len c:Nat}{nn:Bool}{z1 z2 z3:List AV}(hs:E.ty src=some ⟨.slice e,s1,b1,z1⟩)(hd:E.ty dst=some ⟨.string,s2,b2,z2⟩)
  (he:E.ty e=some ⟨.int .u8,s3,b3,z3⟩) {xs:List (List AV)} {vx:Value} (hx:aF g (.nG id off len c nn 1) vx) (hS:Ra E.P g w 1 xs vx) (hlen:xs.length=len) {l:List UInt8} (hl:Ff xs=some l) :
  (convert src dst vx).run E.P w=.ok (.string ⟨l.toArray⟩) w:=by
 have hS':=hE _ _ hs
 have hD:=hE _ _ hd
 have hF:=hE _ _ he
 obtain⟨cs,h1,h2⟩:=hS.cells w.drawn
 obtain⟨ns,h3,h4⟩:=DA hl h2
 have FG:(Builtin.firstCells 1 xs.length vx).run E.P w=.ok cs w:=h1
 cases hx with
 |nG e1 e2 e3 e4 =>
  rw[run_convert_bytes_string w src dst e _ _ _ hS'.d hF.d hD.d]
  rw[run_bytesToString w _ _ _ ns (by
   simp only[Builtin.firstCells,Nat.mul_one,hlen]at FG
   rw[FG,← h3])]
  rw[foldl_push,h4]
  simp
 |Jr ha =>
  rename_i ad
  have fc:xs=[]:=List.length_eq_zero_iff.1 hlen
  subst fc
  unfold Ff at hl
  cases hl
  rw[run_convert_bytes_string w src dst e _ _ _ hS'.d hF.d hD.d]
  cases ad
  ·simp[Conv.bytesToString]
   rfl
  ·simp[Conv.bytesToString,loadCells,loadCellsFrom]
   rfl
end Go.Ev
