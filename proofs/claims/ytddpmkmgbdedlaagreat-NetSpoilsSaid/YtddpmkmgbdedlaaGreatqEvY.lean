/-
Windows: slices of a growable box that begin anywhere in it; read,cut,written,cleared.
-/
import Derived.Test.YtddpmkmgbdedlaaGreatqEvK
set_option linter.unusedVariables false
set_option linter.unusedSimpArgs false
namespace Go.Ev
open Go
theorem aQz {E:Env} (hE:E.Ok) {g:Gh} {t e:TypeId} {s1 b1 id off len c sz:Nat} {nn:Bool} {z1:List AV} {ei:TI} (ht:E.ty t=some ⟨.slice e,s1,b1,z1⟩) (he:E.ty e=some ei) (hsz:sz=ei.size)
  {vx:Value} {k:IntKind} {i:Int} (hx:VRel g (.wsl id off len c nn sz) vx) (hb:0≤i∧i < len) (w:World) :
  ∃ v,(Instr.indexAt t vx (.int k i)).run E.P w=.ok v w∧VRel g (.ptr id (off+i.toNat * sz)) v:=by
 have hx':=pF hx
 have:iS E t (.bsl id off len sz) (.v (.int k i))=some { r:=.ptr id (off+i.toNat * sz),ob:=0≤i∧i < len }:=by
  unfold iS; simp only [ht,he,if_pos hsz]
 obtain ⟨v,h1,h2,_⟩:=tU hE hx' (.v _) this hb w
 exact ⟨v,h1,h2⟩
theorem evLenW {E:Env} (hE:E.Ok) {g:Gh} {t e:TypeId} {s1 b1 id off len c sz:Nat} {nn:Bool} {z1:List AV} (ht:E.ty t=some ⟨.slice e,s1,b1,z1⟩) {vx:Value} (hx:VRel g (.wsl id off len c nn sz) vx) (ty:TypeId) (w:World) :
  (Builtin.len_ #[t] ty #[vx]).run E.P w=.ok (.int .i64 len) w :=
 qZ hE (pF hx) (by unfold nK; simp only [ht]) ty w
theorem aLZ {P:Program} {lo hi mx:Option AV} {l h m:Int} {g:Gh} {vlo vhi vmx:Option Value} (len cap:Nat)
  (hl:bnd lo 0=some l) (hh:bnd hi len=some h) (hm:bnd mx cap=some m) (hlo:∀ a,lo=some a→∃ v,vlo=some v∧VRel g a v) (hlo':lo=none→vlo=none)
  (hhi:∀ a,hi=some a→∃ v,vhi=some v∧VRel g a v) (hhi':hi=none→vhi=none) (hmx:∀ a,mx=some a→∃ v,vmx=some v∧VRel g a v) (hmx':mx=none→vmx=none) (hsome:mx.isSome=true→hi.isSome=true)
  (h0:0≤l) (h1:l≤h) (h2:h≤m) (h3:m≤cap) (w:World) :
  (Instr.sliceBounds true len cap vlo vhi vmx).run P w=.ok (l.toNat,h.toNat,m.toNat) w:=by
 have b1:=fun code=>rA (P:=P) hm hmx hmx' cap code (by omega) h3 w
 have b2:=fun code=>rA (P:=P) hh hhi hhi' m.toNat code (by omega) (by omega) w
 have b3:=fun code=>rA (P:=P) hl hlo hlo' h.toNat code h0 (by omega) w
 cases mx with
 | none =>
  have hv:=hmx' rfl
  subst hv
  have hmc:m=cap:=by simpa [bnd] using hm.symm
  subst hmc
  simp only [Int.toNat_natCast] at b2 ⊢
  simp only [Instr.sliceBounds,pure_bind]
  rcases b2 .sliceAcap with ⟨rfl,hd⟩ | ⟨v,rfl,hv⟩
  ·rcases b3 .sliceB with ⟨rfl,hd2⟩ | ⟨v2,rfl,hv2⟩
   ·subst hd; subst hd2; simp
   ·subst hd
    simp only [Int.toNat_natCast] at hv2 ⊢
    simp [hv2]
  ·rcases b3 .sliceB with ⟨rfl,hd2⟩ | ⟨v2,rfl,hv2⟩
   ·subst hd2; simp [hv]
   ·simp [hv,hv2]
 | some a =>
  obtain ⟨v0,rfl,hv0⟩:=hmx a rfl
  have e1:(Instr.sliceBound v0 cap .slice3Acap).run P w=.ok m.toNat w:=by
   rcases b1 .slice3Acap with ⟨h,_⟩ | ⟨v,h,hv⟩
   ·cases h
   ·cases h; exact hv
  rcases b2 .slice3B with ⟨rfl,hd⟩ | ⟨v,rfl,hv⟩
  ·cases hi with
   | none=>simp at hsome
   | some x=>obtain ⟨y,hy,_⟩:=hhi x rfl; cases hy
  ·rcases b3 .slice3C with ⟨rfl,hd2⟩ | ⟨v2,rfl,hv2⟩
   ·subst hd2; simp [Instr.sliceBounds,e1,hv]
   ·simp [Instr.sliceBounds,e1,hv,hv2]
theorem aQA (a:AV) (d d':Int):bnd (some a) d=bnd (some a) d':=by
 unfold bnd
 split<;>simp_all
theorem aQB {E:Env} (hE:E.Ok) {g:Gh} {t e:TypeId} {s1 b1 id off len c sz:Nat} {nn:Bool} {z1:List AV} {ei:TI} (ht:E.ty t=some ⟨.slice e,s1,b1,z1⟩) (he:E.ty e=some ei) (hsz:sz=ei.size)
  {vx:Value} (hx:VRel g (.wsl id off len c nn sz) vx) {lo hi mx:Option AV} {l h m:Int} {vlo vhi vmx:Option Value} (hl:bnd lo 0=some l) (hh:bnd hi len=some h) (hm:bnd mx c=some m)
  (hlo:∀ a,lo=some a→∃ v,vlo=some v∧VRel g a v) (hlo':lo=none→vlo=none)
  (hhi:∀ a,hi=some a→∃ v,vhi=some v∧VRel g a v) (hhi':hi=none→vhi=none) (hmx:∀ a,mx=some a→∃ v,vmx=some v∧VRel g a v) (hmx':mx=none→vmx=none) (hsome:mx.isSome=true→hi.isSome=true)
  (h0:0≤l) (h1:l≤h) (h2:h≤m) (h3:m≤c) (w:World) :
  ∃ v,(Instr.sliceAt t vx vlo vhi vmx).run E.P w=.ok v w∧VRel g (.wsl id (off+l.toNat * sz) (h.toNat - l.toNat) (m.toNat - l.toNat) (nn || decide (0 < len)) sz) v:=by
 have hT:=hE _ _ ht
 have hF:=hE _ _ he
 subst hsz
 cases hx with
 | wsl e1 e2 e3 e4 =>
  rename_i b lo0 n cap
  -- what the machine takes as the greatest bound
  obtain ⟨m',hm',hm1,hm2⟩:∃ m':Int,bnd mx cap=some m'∧m≤m'∧m'≤cap:=by
   cases mx with
   | none =>
    have:m=c:=by simpa [bnd] using hm.symm
    exact ⟨cap,rfl,by omega,Int.le_refl _⟩
   | some a=>exact ⟨m,(aQA a _ _).trans hm,Int.le_refl _,by omega⟩
  have hb:=aLZ (P:=E.P) (g:=g) len cap hl hh hm' hlo hlo' hhi hhi' hmx hmx' hsome h0 h1 (by omega) hm2 w
  refine ⟨_,by simp only [Instr.sliceAt,Sem.run_bind,hT.underlying,Result.andThen_ok,Instr.slice,hb,hF.sizeOf,Sem.run_pure,Option.map_some,fO]; rfl,?_⟩
  by_cases hml:m'.toNat=l.toNat
  ·rw [if_pos hml]
   have z1:h.toNat - l.toNat=0:=by omega
   have z2:m.toNat - l.toNat=0:=by omega
   rw [z1,z2,hml,Nat.sub_self]
   exact .wsl0 (fun _ h=>by cases h)
  ·rw [if_neg hml]
   refine .wsl e1 (by omega) (by omega) ?_
   have:l.toNat * ei.size+(m'.toNat - l.toNat) * ei.size≤cap * ei.size:=by
    rw [← Nat.add_mul]; exact Nat.mul_le_mul_right _ (by omega)
   omega
 | wsl0 ha =>
  rename_i a
  have hm0:m=0:=by omega
  have hl0:l=0:=by omega
  have hh0:h=0:=by omega
  subst hm0; subst hl0; subst hh0
  have hb:=aLZ (P:=E.P) (g:=g) 0 0 hl hh hm hlo hlo' hhi hhi' hmx hmx' hsome (Int.le_refl _) (Int.le_refl _) (Int.le_refl _) (Int.le_refl _) w
  refine ⟨.slice a 0 0,?_,?_⟩
  ·simp only [Instr.sliceAt,Sem.run_bind,hT.underlying,Result.andThen_ok,Instr.slice,hb,hF.sizeOf,Sem.run_pure]
   simp
  ·exact .wsl0 (fun h=>ha (by simpa using h))
theorem aL0 (cells:List AV) (off sz:Nat):∀ len:Nat,(cN cells off len sz).flatten=rd cells off (len * sz)
 | 0=>by simp [cN,rd]
 | n + 1 => by
  have e1:cN cells off (n+1) sz=cN cells off n sz++[rd cells (off+n * sz) sz]:=by simp [cN,List.range_succ]
  rw [e1,List.flatten_append,aL0 cells off sz n]
  simp only [List.flatten_cons,List.flatten_nil,List.append_nil,rd]
  rw [Nat.succ_mul,List.take_add,List.drop_drop]
theorem aQC {cells:List AV} {off len sz i:Nat} {cs:List AV} (h:(cN cells off len sz)[i]?=some cs):i < len∧cs=rd cells (off+i * sz) sz:=by
 simp [cN] at h
 obtain ⟨a,h3,h4⟩:=h
 by_cases hi:i < len
 ·rw [List.getElem?_range hi] at h3; cases h3; exact ⟨hi,h4.symm⟩
 ·rw [List.getElem?_eq_none (by simp; omega)] at h3; cases h3
theorem SrcIs.heap {P:Program} {g:Gh} {H:Nat→Ent} {w:World} (hW:WRel g H w) {id off len c sz:Nat} {nn:Bool} {vx:Value} (hx:VRel g (.wsl id off len c nn sz) vx) {cells:List AV} (hH:H id=.gbx cells) (hl:off+len * sz≤cells.length) :
  SrcIs P g w sz (cN cells off len sz) vx:=by
 have hcl:(cN cells off len sz).length=len:=by simp [cN]
 have hsz:∀ (i:Nat) (cs:List AV),(cN cells off len sz)[i]?=some cs→cs.length=sz:=fun i cs h=>by
  obtain ⟨hi,rfl⟩:=aQC h
  have:i * sz+sz≤len * sz:=by rw [← Nat.succ_mul]; exact Nat.mul_le_mul_right _ hi
  simp [rd]; omega
 rw [show SrcIs P g w sz (cN cells off len sz) vx=SrcIs P g w sz (cN cells off len sz) vx from rfl]
 cases hx with
 | wsl e1 e2 e3 e4 =>
  rename_i b lo n cap
  have hent:=hW.ent id
  rw [hH] at hent
  rcases hent with ⟨e0,_⟩ | ⟨b',n'',bc,T,fr,f1,f2,f3,f4,f5,f6,f7⟩
  ·rw [e1] at e0; cases e0
  rw [e1] at f1; cases f1
  refine ⟨fun d=>by rw [hcl]; simp [Builtin.lenOf],hsz,fun d=>?_⟩
  refine ⟨((List.range (len * sz)).map fun j=>(w.cell? ⟨b,off+j,none⟩).getD undef).toArray,?_,?_⟩
  ·rw [hcl]
   simp only [Builtin.firstCells]
   refine run_loadCells _ _ _ _ fun j hj=>?_
   rw [fO]
   obtain ⟨c',h1,_⟩:=f6 (off+j) _ (List.getElem?_eq_getElem (show off+j < cells.length by omega))
   show w.cell? _=_
   rw [cI f2,h1]; rfl
  ·rw [aL0]
   refine ⟨by simp [rd]; omega,fun j y c' hy hc=>?_⟩
   rw [nJ] at hy
   split at hy
   ·rename_i hlt
    obtain ⟨c2,h1,h2⟩:=f6 (off+j) y hy
    simp only [List.getElem?_map,List.getElem?_range hlt,Option.map_some,Option.some.injEq] at hc
    rw [cI f2,h1] at hc
    simp only [Option.getD_some] at hc
    subst hc; exact h2
   ·cases hy
 | wsl0 ha =>
  rename_i a
  have e:cN cells off 0 sz=[]:=by simp [cN]
  rw [e]
  refine ⟨fun d=>by simp [Builtin.lenOf],by simp,fun d=>⟨#[],?_,.nil⟩⟩
  cases a<;>simp [Builtin.firstCells,loadCells,loadCellsFrom]
theorem Evo.putM {g:Gh} {H:Nat→Ent} {w:World} (h:WRel g H w) {id b n off:Nat} {cells cells':List AV} {vs:List Value} (hid:H id=.gbx cells) (hρ:g.ρ id=some (b,0,n))
  (hlen:cells'.length≤n) (hn:off+vs.length≤n)
  (hc:∀ (j:Nat) (x:AV),cells'[j]?=some x→((j < off∨off+vs.length≤j)∧cells[j]?=some x)∨(off≤j∧j < off+vs.length∧∃ v,vs[j - off]?=some v∧VRel g x v)) :
  Evo g H w g (upd H id (.gbx cells')) (w.setCells b off vs):=by
 have he:=h.ent id
 rw [hid] at he
 rcases he with ⟨e0,_⟩ | ⟨b',n',cs,T,fr,e1,e2,e3,e4,e5,e6,e7⟩
 ·rw [hρ] at e0; cases e0
 rw [hρ] at e1; cases e1
 have hlv:(H id).live:=by rw [hid]; trivial
 have hM:∀ k,MutOf g H b k:=fun k=>⟨id,0,n,hlv,hρ,Nat.zero_le _⟩
 have hlive:∀ k,(upd H id (.gbx cells') k).live→(H k).live:=fun k hk=>by
  by_cases e:k=id
  ·subst e; exact hlv
  ·rw [aJ _ _ e] at hk; exact hk
 refine ⟨g.le_refl,⟨fun b1 o v e=>?_,fun k=>?_,fun k hk=>?_,fun k k' x x' hne hl hl' e e'=>h.inj k k' x x' hne (hlive k hl) (hlive k' hl') e e'⟩,.setCells w b off vs e2 fun k _ _=>hM k,
  fun b o v e=>.inl e,fun k b lo n hl e=>.inr ⟨k,lo,n,hlive k hl,e,Nat.le_refl _⟩⟩
 ·have hb1:b1≠b:=fun hb=>by subst hb; rw [e7] at e; cases e
  obtain ⟨cs',T',fr',h1,h2⟩:=gM (h.imm b1 o v e)
  rw [cI (by rw [iE _ _ _ _ _ hb1]; exact h1)]
  exact h2
 ·by_cases hk:k=id
  ·subst hk
   rw [aR]
   refine .inr ⟨b,n,_,T,fr,hρ,mE vs w b off cs T fr e2,(lG _ _ _).trans e3,e4,hlen,fun j x hj=>?_,e7⟩
   rcases hc j x hj with ⟨hout,hj'⟩ | ⟨h1,h2,v,h3,h4⟩
   ·rw [iR _ _ _ _ (by omega)]; exact e6 j x hj'
   ·refine ⟨v,?_,h4⟩
    have:=oZ vs cs off (j - off) (by omega) (by omega)
    rw [show off+(j - off)=j by omega] at this
    rw [this]; exact h3
  ·rw [aJ _ _ hk]
   refine (h.ent k).keep g.le_refl (fun _=>rfl) fun b1 lo n1 hl e=>⟨?_,fun _ _=>rfl⟩
   exact iE _ _ _ _ _ (h.inj k id _ _ hk hl hlv e hρ)
 ·by_cases e:k=id
  ·subst e; simp at hk
  ·rw [aJ _ _ e] at hk; exact h.fresh k hk
theorem Evo.sameM {g:Gh} {H:Nat→Ent} {w:World} (h:WRel g H w) {id:Nat} {cells cells':List AV} (hid:H id=.gbx cells) (hlen:cells'.length≤cells.length) (hc:∀ (j:Nat) (x:AV),cells'[j]?=some x→cells[j]?=some x) :
  Evo g H w g (upd H id (.gbx cells')) w:=by
 have hlv:(H id).live:=by rw [hid]; trivial
 have hlive:∀ k,(upd H id (.gbx cells') k).live→(H k).live:=fun k hk=>by
  by_cases e:k=id
  ·subst e; exact hlv
  ·rw [aJ _ _ e] at hk; exact hk
 refine ⟨g.le_refl,⟨h.imm,fun k=>?_,fun k hk=>?_,fun k k' x x' hne hl hl' e e'=>h.inj k k' x x' hne (hlive k hl) (hlive k' hl') e e'⟩,.refl _ _,fun b o v e=>.inl e,fun k b lo n hl e=>.inr ⟨k,lo,n,hlive k hl,e,Nat.le_refl _⟩⟩
 ·by_cases hk:k=id
  ·subst hk
   rw [aR]
   have he:=h.ent k
   rw [hid] at he
   rcases he with ⟨e0,e1⟩ | ⟨b',n',cs,T,fr,e1,e2,e3,e4,e5,e6,e7⟩
   ·exact .inl ⟨e0,List.eq_nil_of_length_eq_zero (by rw [e1] at hlen; simpa using hlen)⟩
   ·exact .inr ⟨b',n',cs,T,fr,e1,e2,e3,e4,by omega,fun j x hj=>e6 j x (hc j x hj),e7⟩
  ·rw [aJ _ _ hk]; exact h.ent k
 ·by_cases e:k=id
  ·subst e; simp at hk
  ·rw [aJ _ _ e] at hk; exact h.fresh k hk
theorem aQD {E:Env} (hE:E.Ok) {g:Gh} {H:Nat→Ent} {w:World} (hW:WRel g H w) {t e:TypeId} {s1 b1 id off len c:Nat} {nn:Bool} {z1:List AV} {ei:TI} (ht:E.ty t=some ⟨.slice e,s1,b1,z1⟩) (he:E.ty e=some ei)
  {vx:Value} (hx:VRel g (.wsl id off len c nn ei.size) vx) {cells cells':List AV} (hH:H id=.gbx cells) (hone:∀ (g:Gh) (cs:List Value),LRel g ei.zero cs→∀ c∈cs,c.oneCell'=true) (hlen:cells'.length≤cells.length)
  (hc:∀ (j:Nat) (x:AV),cells'[j]?=some x→((j < off∨off+len * ei.size≤j)∧cells[j]?=some x)∨(off≤j∧j < off+len * ei.size∧∀ a,(List.replicate len ei.zero).flatten[j - off]?=some a→∀ g v,VRel g a v→VRel g x v)) (ty:TypeId) :
  ∃ w',(Builtin.clear_ #[t] ty #[vx]).run E.P w=.ok (.tuple #[]) w'∧Evo g H w g (upd H id (.gbx cells')) w':=by
 have hT:=hE _ _ ht
 have hF:=hE _ _ he
 obtain ⟨info,hinfo,hisz,hib,z,hz,hzr⟩:=hF.info
 have hzsz:z.cells.size=ei.size:=by have:=(hzr g).1; rw [hF.zl] at this; simpa using this.symm
 have none_:len=0→Evo g H w g (upd H id (.gbx cells')) w:=fun h0=>Evo.sameM hW hH hlen fun j x hj=>by
  subst h0
  rcases hc j x hj with ⟨_,h⟩ | ⟨h1,h2,_⟩
  ·exact h
  ·omega
 cases hx with
 | wsl e1 e2 e3 e4 =>
  rename_i b lo n cap
  by_cases h0:len=0
  ·refine ⟨w,?_,none_ h0⟩
   subst h0
   simp only [Builtin.clear_,List.getElem?_toArray,List.getElem?_cons_zero,Sem.run_bind,hT.underlying,Result.andThen_ok,Sem.run_pure]
  ·have hent:=hW.ent id
   rw [hH] at hent
   rcases hent with ⟨e0,_⟩ | ⟨b',n'',bc,T,fr,f1,f2,f3,f4,f5,f6,f7⟩
   ·rw [e1] at e0; cases e0
   rw [e1] at f1; cases f1
   have hmul:len * ei.size≤cap * ei.size:=Nat.mul_le_mul_right _ (Nat.le_trans e2 e3)
   have q0:(Builtin.zeroCells z.cells len).toList=(List.replicate len z.cells.toList).flatten:=by
    have q1:Builtin.zeroCells z.cells len=madeCells z.cells (len * z.cells.size):=rfl
    rw [q1,hzsz,aBe hzsz]
   have hrel:LRel g (List.replicate len ei.zero).flatten (Builtin.zeroCells z.cells len).toList:=by
    rw [q0]
    exact aBf (hzr g) _
   have hvl:(Builtin.zeroCells z.cells len).toList.length=len * ei.size:=by rw [Array.length_toList,mJ,hzsz]
   have hall:∀ c∈(Builtin.zeroCells z.cells len).toList,c.oneCell'=true:=by
    rw [q0]
    intro c hc
    obtain ⟨l,h1,h2⟩:=List.mem_flatten.1 hc
    rw [(List.mem_replicate.1 h1).2] at h2
    exact hone g _ (hzr g) c h2
   have hst:=run_storeCells_cells (P:=E.P) b off (Builtin.zeroCells z.cells len).toList 0 w (fun j hj=>by
     rw [hvl] at hj
     rw [cI f2]
     simp [show off+j < bc.size by omega])
    (fun j hj=>by
     rw [hvl] at hj
     simp only [World.frozen?,f2]
     have:=f4 (off+j) (by omega) (by omega)
     simpa using this)
    hall
   refine ⟨_,?_,Evo.putM (off:=off) (vs:=(Builtin.zeroCells z.cells len).toList) hW hH e1 (by omega) (by rw [hvl]; omega) fun j x hj=>?_⟩
   ·obtain ⟨m,rfl⟩:∃ m,len=m+1:=⟨len - 1,by omega⟩
    simp only [Builtin.clear_,List.getElem?_toArray,List.getElem?_cons_zero,Sem.run_bind,hT.underlying,Result.andThen_ok,zeroValue,typeInfo,run_program,hinfo,hz,Sem.run_pure,pure_bind,hst,Nat.add_zero]
   ·rw [hvl]
    rcases hc j x hj with h | ⟨h1,h2,h3⟩
    ·exact .inl h
    ·refine .inr ⟨h1,h2,?_⟩
     obtain ⟨v,q1,q2⟩:=hrel.get (k:=j - off) (List.getElem?_eq_getElem (by rw [hrel.1,hvl]; omega))
     exact ⟨v,q1,h3 _ (List.getElem?_eq_getElem (by rw [hrel.1,hvl]; omega)) g v q2⟩
 | wsl0 ha =>
  refine ⟨w,?_,none_ rfl⟩
  rename_i a
  cases a<;>simp only [Builtin.clear_,List.getElem?_toArray,List.getElem?_cons_zero,Sem.run_bind,hT.underlying,Result.andThen_ok,Sem.run_pure]
theorem aQE {g:Gh} {id off len c sz:Nat} {nn:Bool} {v:Value} (h:VRel g (.wsl id off len c nn sz) v) (hn:(nn || Nat.blt 0 len)=true):VRel g (.nsl 0 (List.replicate len [])) v:=by
 cases h with
 | wsl e h1 h2 h3 =>
  exact .nsl (.asl (.sl (fun _ _=>undef) (by simp) (Nat.le_trans h1 h2) (fun i cs h=>by rw [List.getElem?_replicate] at h; split at h<;>simp at h; simp [← h]) (fun i cs k x h hx=>by rw [List.getElem?_replicate] at h; split at h<;>simp at h; subst h; simp at hx)
   (fun i cs k x h hx=>by rw [List.getElem?_replicate] at h; split at h<;>simp at h; subst h; simp at hx) trivial)) (by simp)
 | wsl0 h1 =>
  cases nn with
  | false=>cases hn
  | true=>exact .nsl .asl0 (by have:=h1 rfl; simpa using this)
theorem aQF {E:Env} (hE:E.Ok) {g:Gh} {w:World} {src dst e:TypeId} {s1 b1 s2 b2 s3 b3 id off len c:Nat} {nn:Bool} {z1 z2 z3:List AV} (hs:E.ty src=some ⟨.slice e,s1,b1,z1⟩) (hd:E.ty dst=some ⟨.string,s2,b2,z2⟩)
  (he:E.ty e=some ⟨.int .u8,s3,b3,z3⟩) {xs:List (List AV)} {vx:Value} (hx:VRel g (.wsl id off len c nn 1) vx) (hS:SrcIs E.P g w 1 xs vx) (hlen:xs.length=len) {l:List UInt8} (hl:kG xs=some l) :
  (convert src dst vx).run E.P w=.ok (.string ⟨l.toArray⟩) w:=by
 have hS':=hE _ _ hs
 have hD:=hE _ _ hd
 have hF:=hE _ _ he
 obtain ⟨cs,h1,h2⟩:=hS.cells w.drawn
 obtain ⟨ns,h3,h4⟩:=aFg hl h2
 have h1':(Builtin.firstCells 1 xs.length vx).run E.P w=.ok cs w:=h1
 cases hx with
 | wsl e1 e2 e3 e4 =>
  rw [run_convert_bytes_string w src dst e _ _ _ hS'.d hF.d hD.d]
  rw [run_bytesToString w _ _ _ ns (by
   simp only [Builtin.firstCells,Nat.mul_one,hlen] at h1'
   rw [h1',← h3])]
  rw [aFh,h4]
  simp
 | wsl0 ha =>
  rename_i ad
  have hx0:xs=[]:=List.length_eq_zero_iff.1 hlen
  subst hx0
  unfold kG at hl
  cases hl
  rw [run_convert_bytes_string w src dst e _ _ _ hS'.d hF.d hD.d]
  cases ad
  ·simp [Conv.bytesToString]
   rfl
  ·simp [Conv.bytesToString,loadCells,loadCellsFrom]
   rfl
end Go.Ev
