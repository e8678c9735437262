/-
The abstract evaluator: CO cut,literals built,CO grown,texts turned.
-/
import Derived.Test.YtddpmkmgbdedlaaGreatqEvE
set_option linter.unusedVariables false
set_option linter.unusedSimpArgs false
namespace Go.Ev
open Go
def NP (x:Option AV)(d:Int):Option Int :=
 match x with
 |none=>some d
 |some (.v (.int _ i))=>some i
 |_=>none
def cut {α:Type}(l:List α)(i j:Int):List α:=(l.drop i.toNat).take (j.toNat - i.toNat)
def chunks (cells:List AV)(off n sz:Nat):List (List AV):=(List.range n).map fun i=>rd cells (off+i * sz) sz
def Le (E:Env)(H:Nat→dD)(t:TypeId)(x:AV)(lo hi mx:Option AV):Option my :=
 match E.ty t,x with
 |some ⟨.string,_,_,_⟩,.v (.string s) =>
  match NP lo 0,NP hi s.data.toList.length,mx with
  |some l,some h,none=>some { r:=.v (.string ⟨(cut s.data.toList l h).toArray⟩),ob:=0≤l∧l≤h∧h≤s.data.toList.length }
  |_,_,_=>none
 |some ⟨.slice e,_,_,_⟩,.sl sz elems tok =>
  match NP lo 0,NP hi elems.length,mx with
  |some l,some h,none=>if (E.ty e).map (·.size)=some sz then some { r:=.sl sz (cut elems l h) .no,ob:=0≤l∧l≤h∧h≤elems.length } else none
  |some l,some h,some (.v (.int _ m))=>if (E.ty e).map (·.size)=some sz∧hi.isSome=true∧m=h then some { r:=.sl sz (cut elems l h) .full,ob:=0≤l∧l≤h∧h≤elems.length } else none
  |_,_,_=>none
 |some ⟨.slice e,_,_,_⟩,.xA sz elems =>
  match NP lo 0,NP hi elems.length,mx with
  |some l,some h,none=>if (E.ty e).map (·.size)=some sz then some { r:=.xA sz (cut elems l h),ob:=0≤l∧l≤h∧h≤elems.length } else none
  |_,_,_=>none
 |some ⟨.slice e,_,_,_⟩,.v (.slice none 0 0) =>
  match E.ty e,NP lo 0,NP hi 0,mx with
  |some _,some l,some h,none=>some { r:=.v (.slice none 0 0),ob:=l=0∧h=0 }
  |some _,some l,some h,some (.v (.int _ m))=>if hi.isSome=true then some { r:=.v (.slice none 0 0),ob:=l=0∧h=0∧m=0 } else none
  |_,_,_,_=>none
 |some ⟨.array n e,_,_,_⟩,x =>
  match E.ty e,x,lo,hi,mx with
  |some ei,.ptr id off,none,none,none =>
   match H id with
   |.box cells=>if off+n * ei.size≤cells.length then some { r:=.sl ei.size (chunks cells off n ei.size) .full,U:=[(id,.Aa cells)] } else none
   |.Aa cells=>if off+n * ei.size≤cells.length then some { r:=.sl ei.size (chunks cells off n ei.size) .full } else none
   |_=>none
  |some ei,.rL cells off,none,none,none=>if off+n * ei.size≤cells.length then some { r:=.sl ei.size (chunks cells off n ei.size) .full } else none
  |_,_,_,_,_=>none
 |_,_=>none
theorem Ky {P:Program}{x:Option AV}{d i:Int}{g:Gh}{vx:Option Value}(hb:NP x d=some i)(hr:∀ a,x=some a→∃ v,vx=some v∧aF g a v)(hn:x=none→vx=none)
  (y:Nat) (code:BoundsCode) (h0:0≤i) (hy:i≤y) (w:World) :
  (vx=none∧i=d)∨∃ v,vx=some v∧(Instr.sliceBound v y code).run P w=.ok i.toNat w:=by
 cases x with
 |none=>simp[NP]at hb;exact .inl ⟨hn rfl,hb.symm⟩
 |some a =>
  obtain⟨v,rfl,hv⟩:=hr a rfl
  right
  unfold NP at hb
  split at hb
  ·simp_all
  ·rename_i k j e
   cases e;cases hb
   cases hv
   exact⟨_,rfl,by simp only[Instr.sliceBound,asIntOf,pure_bind,if_pos (And.intro h0 hy),Sem.run_pure]⟩
  ·cases hb
theorem Ge {P:Program}{lo hi:Option AV}{l h:Int}{g:Gh}{vlo vhi vmx:Option Value}(len cap:Nat)(b:Bool)
  (hl:NP lo 0=some l) (hh:NP hi len=some h) (IV:∀ a,lo=some a→∃ v,vlo=some v∧aF g a v) (Mr:lo=none→vlo=none)
  (XH:∀ a,hi=some a→∃ v,vhi=some v∧aF g a v) (Oy:hi=none→vhi=none) (wo:vmx=none)
  (h0:0≤l) (h1:l≤h) (h2:h≤len) (hc:len≤cap) (w:World) :
  (Instr.sliceBounds b len cap vlo vhi vmx).run P w=.ok (l.toNat,h.toNat,cap) w:=by
 subst wo
 have e1:=fun code=>Ky (P:=P) hh XH Oy cap code (by omega) (by omega) w
 have e2:=fun code=>Ky (P:=P) hl IV Mr h.toNat code h0 (by omega) w
 simp only[Instr.sliceBounds,pure_bind]
 rcases e1 (if b then .sliceAcap else .sliceAlen) with⟨rfl,hd⟩|⟨v,rfl,hv⟩
 ·rcases e2 .sliceB with⟨rfl,hd2⟩|⟨v2,rfl,jx⟩
  ·subst hd;subst hd2;simp
  ·subst hd
   simp only[Int.toNat_natCast]at jx ⊢
   simp[jx]
 ·rcases e2 .sliceB with⟨rfl,hd2⟩|⟨v2,rfl,jx⟩
  ·subst hd2;simp[hv]
  ·simp[hv,jx]
theorem VI {P:Program}{lo hi:Option AV}{l h m:Int}{g:Gh}{vlo vhi:Option Value}{k:IntKind}(len cap:Nat)(b:Bool)
  (hl:NP lo 0=some l) (hh:NP hi len=some h) (Uz:hi.isSome=true) (IV:∀ a,lo=some a→∃ v,vlo=some v∧aF g a v) (Mr:lo=none→vlo=none)
  (XH:∀ a,hi=some a→∃ v,vhi=some v∧aF g a v) (Oy:hi=none→vhi=none)
  (h0:0≤l) (h1:l≤h) (h2:h≤m) (h3:m≤cap) (w:World) :
  (Instr.sliceBounds b len cap vlo vhi (some (.int k m))).run P w=.ok (l.toNat,h.toNat,m.toNat) w:=by
 have e1:=Ky (P:=P) hh XH Oy m.toNat .slice3B (by omega) (by omega) w
 have e2:=Ky (P:=P) hl IV Mr h.toNat .slice3C h0 (by omega) w
 have em:∀ code,(Instr.sliceBound (.int k m) cap code).run P w=.ok m.toNat w:=fun code=>by
  simp only[Instr.sliceBound,asIntOf,pure_bind,if_pos (And.intro (show (0:Int)≤m by omega) h3),Sem.run_pure]
 rcases e1 with⟨rfl,hd⟩|⟨v,rfl,hv⟩
 ·cases hi with
  |none=>simp at Uz
  |some a=>obtain⟨v,hv,_⟩:=XH a rfl;cases hv
 ·rcases e2 with⟨rfl,hd2⟩|⟨v2,rfl,jx⟩
  ·subst hd2;simp[Instr.sliceBounds,em,hv]
  ·simp[Instr.sliceBounds,em,hv,jx]
theorem ZR {α:Type}(l:List α)(i j:Int)(h0:0≤i)(h:j≤l.length):(cut l i j).length=j.toNat - i.toNat:=by
 simp[cut];omega
theorem YP {α:Type}{l:List α}{i j:Int}{k:Nat}{x:α}(h:(cut l i j)[k]?=some x):l[i.toNat+k]?=some x∧k < j.toNat - i.toNat:=by
 simp only[cut,List.getElem?_take,List.getElem?_drop]at h
 split at h
 ·exact⟨h,by assumption⟩
 ·cases h
theorem lj {g:Gh}{sz:Nat}{elems:List (List AV)}{tok:Tok}{b o len cap:Nat}(h:aF g (.sl sz elems tok) (.slice (some ⟨b,o,none⟩) len cap)){l h':Int}(h0:0≤l)(h1:l≤h')(h2:h'≤elems.length)
  (m:Nat) (hm:h'.toNat≤m) (hm2:m≤cap) (tok':Tok) (ht:tok'=.no∨(tok'=.full∧m=h'.toNat)) :
  aF g (.sl sz (cut elems l h') tok') (.slice (some (if m=l.toNat then ⟨b,o,none⟩ else ⟨b,o+l.toNat * sz,none⟩)) (h'.toNat - l.toNat) (m - l.toNat)):=by
 cases h with
 |sl c e1 e2 e3 e4 e5 e6 =>
  have htok:∀ o',KJ g tok' b o' (h'.toNat - l.toNat) (m - l.toNat) sz:=fun o'=>by
   rcases ht with rfl|⟨rfl,hq⟩
   ·trivial
   ·simp[KJ,hq]
  split
  ·rename_i hml
   have hz:h'.toNat - l.toNat=0:=by omega
   have hnil:cut elems l h'=[]:=List.length_eq_zero_iff.1 (by rw[ZR _ _ _ h0 h2,hz])
   rw[hnil,hz]
   exact .sl (fun _ _=>undef) rfl (Nat.zero_le _) (by simp) (by simp) (by simp) (by have:=htok o;rw[hz]at this;exact this)
  ·refine .sl (fun i k=>c (l.toNat+i) k) (ZR _ _ _ h0 h2) (by omega) (fun i cs h=>e3 _ cs (YP h).1) (fun i cs k x h hx=>?_) (fun i cs k x h hx=>e5 _ cs k x (YP h).1 hx) (htok _)
   have:=e4 (l.toNat+i) cs k x (YP h).1 hx
   rwa [Nat.add_mul,← Nat.add_assoc]at this
theorem TD {g:Gh}{cells:List AV}{b o:Nat}(c:Nat→Value)(h1:∀ k x,cells[k]?=some x→g.I b (o+k)=some (c k))(h2:∀ k x,cells[k]?=some x→aF g x (c k))
  (off n sz:Nat) (hl:off+n * sz≤cells.length):aF g (.sl sz (chunks cells off n sz) .full) (.slice (some ⟨b,o+off,none⟩) n n):=by
 have hg:∀ i cs,(chunks cells off n sz)[i]?=some cs→i < n∧cs=rd cells (off+i * sz) sz:=fun i cs h=>by
  simp[chunks]at h
  obtain⟨a,h3,h4⟩:=h
  by_cases hi:i < n
  ·rw[List.getElem?_range hi]at h3;cases h3;exact⟨hi,h4.symm⟩
  ·rw[List.getElem?_eq_none (by simp;omega)]at h3;cases h3
 have hm:∀ i,i < n→i * sz+sz≤n * sz:=fun i hi=>by rw[← Nat.succ_mul];exact Nat.mul_le_mul_right _ hi
 refine .sl (fun i k=>c (off+i * sz+k)) (by simp[chunks]) (Nat.le_refl _) (fun i cs h=>?_) (fun i cs k x h hx=>?_) (fun i cs k x h hx=>?_) rfl
 ·obtain⟨hi,rfl⟩:=hg i cs h
  have:=hm i hi
  simp[rd];omega
 ·obtain⟨hi,rfl⟩:=hg i cs h
  rw[uU]at hx
  split at hx
  ·have:=h1 _ x hx
   rw[show o+off+i * sz+k=o+(off+i * sz+k) by omega];exact this
  ·cases hx
 ·obtain⟨hi,rfl⟩:=hg i cs h
  rw[uU]at hx
  split at hx
  ·exact h2 _ x hx
  ·cases hx
theorem CL {E:Env}(hE:E.Ok){t e:TypeId}{n s by_:Nat}{z:List AV}(ht:E.ty t=some ⟨.array n e,s,by_,z⟩){ei:TI}(he:E.ty e=some ei)(b o:Nat)(w:World) :
  (Instr.sliceAt t (.pointer (some ⟨b,o,none⟩)) none none none).run E.P w=.ok (.slice (some ⟨b,o,none⟩) n n) w:=by
 have hT:=hE t _ ht
 have hF:=hE e _ he
 simp only[Instr.sliceAt,Sem.run_bind,hT.underlying,Result.andThen_ok,Instr.sureAddr,Sem.run_pure,Instr.sliceBounds,pure_bind,hF.sizeOf,Nat.zero_mul,Addr.add_zero',ite_self,Nat.sub_zero]
theorem KM {E:Env}(hE:E.Ok){g:Gh}{H:Nat→dD}{w:World}(hW:eR g H w){t:TypeId}{x:AV}{lo hi mx:Option AV}{vx:Value}{vlo vhi vmx:Option Value}(hx:aF g x vx)
  (IV:∀ a,lo=some a→∃ v,vlo=some v∧aF g a v) (Mr:lo=none→vlo=none) (XH:∀ a,hi=some a→∃ v,vhi=some v∧aF g a v) (Oy:hi=none→vhi=none)
  (wo:∀ a,mx=some a→∃ v,vmx=some v∧aF g a v) (Tx:mx=none→vmx=none) {res:my} (h:Le E H t x lo hi mx=some res) (jM:res.ob) :
  ∃ v g',(Instr.sliceAt t vx vlo vhi vmx).run E.P w=.ok v w∧aF g' res.r v∧fC g H w g' (app H res.U) w:=by
 unfold Le at h
 split at h
 ·rename_i _ _ _ s ht
  have hT:=hE t _ ht
  cases hx
  split at h
  ·rename_i l h' hl hh
   cases h
   obtain⟨h0,h1,h2⟩:0≤l∧l≤h'∧h'≤s.data.toList.length:=jM
   have hb:=Ge (P:=E.P) (g:=g) s.size s.size false hl (by simpa using hh) IV Mr XH Oy (Tx rfl) h0 h1 (by simpa using h2) (Nat.le_refl _) w
   refine⟨_,g,?_,.v _,.refl hW⟩
   have hv:vmx=none:=Tx rfl
   subst hv
   simp only[Instr.sliceAt,Sem.run_bind,hT.underlying,Result.andThen_ok,Instr.slice,hb,Option.isSome_none,Bool.false_eq_true,if_false,Sem.run_pure]
   congr 2
   apply ByteArray.ext
   apply Array.ext'
   simp[cut,ByteArray.data_extract,List.take_drop]
  ·cases h
 ·rename_i e _ _ _ sz elems tok ht
  have hT:=hE t _ ht
  split at h
  ·rename_i l h' hl hh
   split at h
   ·rename_i Ch
    cases h
    obtain⟨ei,ZK,hs⟩:=Option.map_eq_some_iff.1 Ch
    have hF:=hE e _ ZK
    obtain⟨h0,h1,h2⟩:0≤l∧l≤h'∧h'≤elems.length:=jM
    have fc:=hx
    cases hx with
    |sl c e1 e2 e3 e4 e5 e6 =>
     rename_i b o len cap
     subst e1
     have hb:=Ge (P:=E.P) (g:=g) elems.length cap true hl hh IV Mr XH Oy (Tx rfl) h0 h1 h2 e2 w
     have hv:vmx=none:=Tx rfl
     subst hv
     refine⟨_,g,?_,lj fc h0 h1 h2 cap (by omega) (Nat.le_refl _) .no (.inl rfl),.refl hW⟩
     simp only[Instr.sliceAt,Sem.run_bind,hT.underlying,Result.andThen_ok,Instr.slice,hb,hF.sizeOf,Sem.run_pure,Option.map_some,mR,hs]
     congr 2
     split<;>rfl
   ·cases h
  ·rename_i l h' k m hl hh
   split at h
   ·rename_i Ch
    obtain⟨Ch,Uz,hmh⟩:=Ch
    cases h
    obtain⟨ei,ZK,hs⟩:=Option.map_eq_some_iff.1 Ch
    have hF:=hE e _ ZK
    obtain⟨h0,h1,h2⟩:0≤l∧l≤h'∧h'≤elems.length:=jM
    have fc:=hx
    cases hx with
    |sl c e1 e2 e3 e4 e5 e6 =>
     rename_i b o len cap
     subst e1
     obtain⟨vm,rfl,hvm⟩:=wo _ rfl
     cases hvm
     have hb:=VI (P:=E.P) (g:=g) (k:=k) elems.length cap true hl hh Uz IV Mr XH Oy h0 h1 (m:=m) (by omega) (by omega) w
     refine⟨_,g,?_,lj fc h0 h1 h2 m.toNat (by omega) (by omega) .full (.inr ⟨rfl,by rw[hmh]⟩),.refl hW⟩
     simp only[Instr.sliceAt,Sem.run_bind,hT.underlying,Result.andThen_ok,Instr.slice,hb,hF.sizeOf,Sem.run_pure,Option.map_some,mR,hs]
     congr 2
     split<;>rfl
   ·cases h
  ·cases h
 ·rename_i e _ _ _ sz elems ht
  have hT:=hE t _ ht
  split at h
  ·rename_i l h' hl hh
   split at h
   ·rename_i Ch
    cases h
    obtain⟨ei,ZK,hs⟩:=Option.map_eq_some_iff.1 Ch
    have hF:=hE e _ ZK
    obtain⟨h0,h1,h2⟩:0≤l∧l≤h'∧h'≤elems.length:=jM
    have hv:vmx=none:=Tx rfl
    subst hv
    cases hx with
    |Jt =>
     have hb:=Ge (P:=E.P) (g:=g) 0 0 true hl (by simpa using hh) IV Mr XH Oy rfl h0 h1 (by simpa using h2) (Nat.le_refl _) w
     have e1:l=0:=by simp at h2;omega
     have e2:h'=0:=by simp at h2;omega
     subst e1;subst e2
     rename_i ad
     cases ad with
     |none =>
      refine⟨_,g,?_,.Jt (a:=none),.refl hW⟩
      simp only[Instr.sliceAt,Sem.run_bind,hT.underlying,Result.andThen_ok,Instr.slice,hb,hF.sizeOf,Sem.run_pure,Option.map_none,ite_self]
      rfl
     |some ad =>
      refine⟨_,g,?_,.Jt (a:=some ad),.refl hW⟩
      simp only[Instr.sliceAt,Sem.run_bind,hT.underlying,Result.andThen_ok,Instr.slice,hb,hF.sizeOf,Sem.run_pure,Option.map_some]
      simp
    |xA hx =>
     have fc:=hx
     cases hx with
     |sl c e1 e2 e3 e4 e5 e6 =>
      rename_i b o len cap
      subst e1
      have hb:=Ge (P:=E.P) (g:=g) elems.length cap true hl hh IV Mr XH Oy rfl h0 h1 h2 e2 w
      refine⟨_,g,?_,.xA (lj fc h0 h1 h2 cap (by omega) (Nat.le_refl _) .no (.inl rfl)),.refl hW⟩
      simp only[Instr.sliceAt,Sem.run_bind,hT.underlying,Result.andThen_ok,Instr.slice,hb,hF.sizeOf,Sem.run_pure,Option.map_some,mR,hs]
      congr 2
      split<;>rfl
   ·cases h
  ·cases h
 ·rename_i e _ _ _ ht
  have hT:=hE t _ ht
  cases hx
  split at h
  ·rename_i ei l h' ZK hl hh
   have hF:=hE e _ ZK
   cases h
   obtain⟨rfl,rfl⟩:l=0∧h'=0:=jM
   have hb:=Ge (P:=E.P) (g:=g) 0 0 true hl (by simpa using hh) IV Mr XH Oy (Tx rfl) (Int.le_refl _) (Int.le_refl _) (by simp) (Nat.le_refl _) w
   have hv:vmx=none:=Tx rfl
   subst hv
   refine⟨_,g,?_,.v _,.refl hW⟩
   simp only[Instr.sliceAt,Sem.run_bind,hT.underlying,Result.andThen_ok,Instr.slice,hb,hF.sizeOf,Sem.run_pure,Option.map_none,ite_self]
   rfl
  ·rename_i ei l h' k m ZK hl hh
   have hF:=hE e _ ZK
   split at h
   ·rename_i Uz
    cases h
    obtain⟨rfl,rfl,rfl⟩:l=0∧h'=0∧m=0:=jM
    obtain⟨vm,rfl,hvm⟩:=wo _ rfl
    cases hvm
    have hb:=VI (P:=E.P) (g:=g) (k:=k) 0 0 true hl (by simpa using hh) Uz IV Mr XH Oy (Int.le_refl _) (Int.le_refl _) (m:=0) (by omega) (by omega) w
    refine⟨_,g,?_,.v _,.refl hW⟩
    simp only[Instr.sliceAt,Sem.run_bind,hT.underlying,Result.andThen_ok,Instr.slice,hb,hF.sizeOf,Sem.run_pure,Option.map_none,ite_self]
    rfl
   ·cases h
  ·cases h
 ·rename_i xx n e _ _ _ ht
  split at h
  ·rename_i ei id off he
   have e1:vlo=none:=Mr rfl
   have e2:vhi=none:=Oy rfl
   have e3:vmx=none:=Tx rfl
   subst e1;subst e2;subst e3
   cases hx with
   |ptr eρ =>
    rename_i b IW n'
    split at h
    ·rename_i cells hH
     split at h
     ·rename_i hlen
      cases h
      obtain⟨g',iP⟩:=fC.freeze hW hH
      have Fs:=iP.rel.zD id
      rw[aP]at Fs
      obtain⟨b',n'',e4,e5⟩:=Fs
      have:=iP.le.ρ _ _ eρ
      rw[this]at e4;cases e4
      refine⟨_,g',CL hE ht he b off w,?_,iP⟩
      have:=TD (g:=g') (cells:=cells) (b:=b) (o:=0) (fun k=>(g'.I b k).getD undef)
       (fun k x hk=>by obtain⟨c,h1,_⟩:=e5 k x hk;simp[h1]) (fun k x hk=>by obtain⟨c,h1,h2⟩:=e5 k x hk;simp only[h1,Option.getD_some];exact h2) off n ei.size hlen
      rwa [Nat.zero_add]at this
     ·cases h
    ·rename_i cells hH
     split at h
     ·rename_i hlen
      cases h
      have Fs:=hW.zD id
      rw[hH]at Fs
      obtain⟨b',n'',e4,e5⟩:=Fs
      rw[eρ]at e4;cases e4
      refine⟨_,g,CL hE ht he b off w,?_,.refl hW⟩
      have:=TD (g:=g) (cells:=cells) (b:=b) (o:=0) (fun k=>(g.I b k).getD undef)
       (fun k x hk=>by obtain⟨c,h1,_⟩:=e5 k x hk;simp[h1]) (fun k x hk=>by obtain⟨c,h1,h2⟩:=e5 k x hk;simp only[h1,Option.getD_some];exact h2) off n ei.size hlen
      rwa [Nat.zero_add]at this
     ·cases h
    ·cases h
  ·rename_i ei cells off he
   have e1:vlo=none:=Mr rfl
   have e2:vhi=none:=Oy rfl
   have e3:vmx=none:=Tx rfl
   subst e1;subst e2;subst e3
   split at h
   ·rename_i hlen
    cases h
    cases hx with
    |rL c e4 e5=>exact⟨_,g,CL hE ht he _ _ w,TD c e4 e5 off n ei.size hlen,.refl hW⟩
   ·cases h
  ·cases h
 ·cases h
end Go.Ev
