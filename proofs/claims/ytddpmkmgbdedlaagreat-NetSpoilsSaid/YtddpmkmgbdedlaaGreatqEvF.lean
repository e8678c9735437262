/-
The abstract evaluator: slices cut,literals built,slices pE,texts turned.
-/
import Derived.Test.YtddpmkmgbdedlaaGreatqEvE
set_option linter.unusedVariables false
set_option linter.unusedSimpArgs false
namespace Go.Ev
open Go
def bnd (x:Option AV) (d:Int):Option Int :=
 match x with
 | none=>some d
 | some (.v (.int _ i))=>some i
 | _=>none
def cut {α:Type} (l:List α) (i j:Int):List α:=(l.drop i.toNat).take (j.toNat - i.toNat)
def cN (cells:List AV) (off n sz:Nat):List (List AV):=(List.range n).map fun i=>rd cells (off+i * sz) sz
def mH (E:Env) (H:Nat→Ent) (t:TypeId) (x:AV) (lo hi mx:Option AV):Option Res :=
 match E.ty t,x with
 | some ⟨.string, _, _, _⟩, .v (.string s) =>
  match bnd lo 0,bnd hi s.data.toList.length,mx with
  | some l,some h,none=>some { r:=.v (.string ⟨(cut s.data.toList l h).toArray⟩),ob:=0≤l∧l≤h∧h≤s.data.toList.length }
  | _,_,_=>none
 | some ⟨.slice e, _, _, _⟩, .sl sz elems tok =>
  match bnd lo 0,bnd hi elems.length,mx with
  | some l,some h,none=>if (E.ty e).map (·.size)=some sz then some { r:=.sl sz (cut elems l h) .no,ob:=0≤l∧l≤h∧h≤elems.length } else none
  | some l,some h,some (.v (.int _ m))=>if (E.ty e).map (·.size)=some sz∧hi.isSome=true∧m=h then some { r:=.sl sz (cut elems l h) .full,ob:=0≤l∧l≤h∧h≤elems.length } else none
  | _,_,_=>none
 | some ⟨.slice e, _, _, _⟩, .asl sz elems =>
  match bnd lo 0,bnd hi elems.length,mx with
  | some l,some h,none=>if (E.ty e).map (·.size)=some sz then some { r:=.asl sz (cut elems l h),ob:=0≤l∧l≤h∧h≤elems.length } else none
  | _,_,_=>none
 | some ⟨.slice e, _, _, _⟩, .v (.slice none 0 0) =>
  match E.ty e,bnd lo 0,bnd hi 0,mx with
  | some _,some l,some h,none=>some { r:=.v (.slice none 0 0),ob:=l=0∧h=0 }
  | some _,some l,some h,some (.v (.int _ m))=>if hi.isSome=true then some { r:=.v (.slice none 0 0),ob:=l=0∧h=0∧m=0 } else none
  | _,_,_,_=>none
 | some ⟨.array n e, _, _, _⟩, x =>
  match E.ty e,x,lo,hi,mx with
  | some ei, .ptr id off, none, none, none =>
   match H id with
   | .box cells=>if off+n * ei.size≤cells.length then some { r:=.sl ei.size (cN cells off n ei.size) .full,U:=[(id,.ibox cells)] } else none
   | .ibox cells=>if off+n * ei.size≤cells.length then some { r:=.sl ei.size (cN cells off n ei.size) .full } else none
   | _=>none
  | some ei,.iptr cells off,none,none,none=>if off+n * ei.size≤cells.length then some { r:=.sl ei.size (cN cells off n ei.size) .full } else none
  | _,_,_,_,_=>none
 | _,_=>none
theorem rA {P:Program} {x:Option AV} {d i:Int} {g:Gh} {vx:Option Value} (hb:bnd x d=some i) (hr:∀ a,x=some a→∃ v,vx=some v∧VRel g a v) (hn:x=none→vx=none)
  (y:Nat) (code:BoundsCode) (h0:0≤i) (hy:i≤y) (w:World) :
  (vx=none∧i=d)∨∃ v,vx=some v∧(Instr.sliceBound v y code).run P w=.ok i.toNat w:=by
 cases x with
 | none=>simp [bnd] at hb; exact .inl ⟨hn rfl,hb.symm⟩
 | some a =>
  obtain ⟨v,rfl,hv⟩:=hr a rfl
  right
  unfold bnd at hb
  split at hb
  ·simp_all
  ·rename_i k j e
   cases e; cases hb
   cases hv
   exact ⟨_,rfl,by simp only [Instr.sliceBound,asIntOf,pure_bind,if_pos (And.intro h0 hy),Sem.run_pure]⟩
  ·cases hb
theorem rC {P:Program} {lo hi:Option AV} {l h:Int} {g:Gh} {vlo vhi vmx:Option Value} (len cap:Nat) (b:Bool)
  (hl:bnd lo 0=some l) (hh:bnd hi len=some h) (hlo:∀ a,lo=some a→∃ v,vlo=some v∧VRel g a v) (hlo':lo=none→vlo=none)
  (hhi:∀ a,hi=some a→∃ v,vhi=some v∧VRel g a v) (hhi':hi=none→vhi=none) (hmx:vmx=none)
  (h0:0≤l) (h1:l≤h) (h2:h≤len) (hc:len≤cap) (w:World) :
  (Instr.sliceBounds b len cap vlo vhi vmx).run P w=.ok (l.toNat,h.toNat,cap) w:=by
 subst hmx
 have e1:=fun code=>rA (P:=P) hh hhi hhi' cap code (by omega) (by omega) w
 have e2:=fun code=>rA (P:=P) hl hlo hlo' h.toNat code h0 (by omega) w
 simp only [Instr.sliceBounds,pure_bind]
 rcases e1 (if b then .sliceAcap else .sliceAlen) with ⟨rfl,hd⟩ | ⟨v,rfl,hv⟩
 ·rcases e2 .sliceB with ⟨rfl,hd2⟩ | ⟨v2,rfl,hv2⟩
  ·subst hd; subst hd2; simp
  ·subst hd
   simp only [Int.toNat_natCast] at hv2 ⊢
   simp [hv2]
 ·rcases e2 .sliceB with ⟨rfl,hd2⟩ | ⟨v2,rfl,hv2⟩
  ·subst hd2; simp [hv]
  ·simp [hv,hv2]
theorem aLD {P:Program} {lo hi:Option AV} {l h m:Int} {g:Gh} {vlo vhi:Option Value} {k:IntKind} (len cap:Nat) (b:Bool)
  (hl:bnd lo 0=some l) (hh:bnd hi len=some h) (hsome:hi.isSome=true) (hlo:∀ a,lo=some a→∃ v,vlo=some v∧VRel g a v) (hlo':lo=none→vlo=none)
  (hhi:∀ a,hi=some a→∃ v,vhi=some v∧VRel g a v) (hhi':hi=none→vhi=none)
  (h0:0≤l) (h1:l≤h) (h2:h≤m) (h3:m≤cap) (w:World) :
  (Instr.sliceBounds b len cap vlo vhi (some (.int k m))).run P w=.ok (l.toNat,h.toNat,m.toNat) w:=by
 have e1:=rA (P:=P) hh hhi hhi' m.toNat .slice3B (by omega) (by omega) w
 have e2:=rA (P:=P) hl hlo hlo' h.toNat .slice3C h0 (by omega) w
 have em:∀ code,(Instr.sliceBound (.int k m) cap code).run P w=.ok m.toNat w:=fun code=>by
  simp only [Instr.sliceBound,asIntOf,pure_bind,if_pos (And.intro (show (0:Int)≤m by omega) h3),Sem.run_pure]
 rcases e1 with ⟨rfl,hd⟩ | ⟨v,rfl,hv⟩
 ·cases hi with
  | none=>simp at hsome
  | some a=>obtain ⟨v,hv,_⟩:=hhi a rfl; cases hv
 ·rcases e2 with ⟨rfl,hd2⟩ | ⟨v2,rfl,hv2⟩
  ·subst hd2; simp [Instr.sliceBounds,em,hv]
  ·simp [Instr.sliceBounds,em,hv,hv2]
theorem aLE {α:Type} (l:List α) (i j:Int) (h0:0≤i) (h:j≤l.length):(cut l i j).length=j.toNat - i.toNat:=by
 simp [cut]; omega
theorem aE5 {α:Type} {l:List α} {i j:Int} {k:Nat} {x:α} (h:(cut l i j)[k]?=some x):l[i.toNat+k]?=some x∧k < j.toNat - i.toNat:=by
 simp only [cut,List.getElem?_take,List.getElem?_drop] at h
 split at h
 ·exact ⟨h,by assumption⟩
 ·cases h
theorem aE6 {g:Gh} {sz:Nat} {elems:List (List AV)} {tok:Tok} {b o len cap:Nat} (h:VRel g (.sl sz elems tok) (.slice (some ⟨b,o,none⟩) len cap)) {l h':Int} (h0:0≤l) (h1:l≤h') (h2:h'≤elems.length)
  (m:Nat) (hm:h'.toNat≤m) (hm2:m≤cap) (tok':Tok) (ht:tok'=.no∨(tok'=.full∧m=h'.toNat)) :
  VRel g (.sl sz (cut elems l h') tok') (.slice (some (if m=l.toNat then ⟨b,o,none⟩ else ⟨b,o+l.toNat * sz,none⟩)) (h'.toNat - l.toNat) (m - l.toNat)):=by
 cases h with
 | sl c e1 e2 e3 e4 e5 e6 =>
  have htok:∀ o',TokOk g tok' b o' (h'.toNat - l.toNat) (m - l.toNat) sz:=fun o'=>by
   rcases ht with rfl | ⟨rfl,hq⟩
   ·trivial
   ·simp [TokOk,hq]
  split
  ·rename_i hml
   have hz:h'.toNat - l.toNat=0:=by omega
   have hnil:cut elems l h'=[]:=List.length_eq_zero_iff.1 (by rw [aLE _ _ _ h0 h2,hz])
   rw [hnil,hz]
   exact .sl (fun _ _=>undef) rfl (Nat.zero_le _) (by simp) (by simp) (by simp) (by have:=htok o; rw [hz] at this; exact this)
  ·refine .sl (fun i k=>c (l.toNat+i) k) (aLE _ _ _ h0 h2) (by omega) (fun i cs h=>e3 _ cs (aE5 h).1) (fun i cs k x h hx=>?_) (fun i cs k x h hx=>e5 _ cs k x (aE5 h).1 hx) (htok _)
   have:=e4 (l.toNat+i) cs k x (aE5 h).1 hx
   rwa [Nat.add_mul,← Nat.add_assoc] at this
theorem aE7 {g:Gh} {cells:List AV} {b o:Nat} (c:Nat→Value) (h1:∀ k x,cells[k]?=some x→g.I b (o+k)=some (c k)) (h2:∀ k x,cells[k]?=some x→VRel g x (c k))
  (off n sz:Nat) (hl:off+n * sz≤cells.length):VRel g (.sl sz (cN cells off n sz) .full) (.slice (some ⟨b,o+off,none⟩) n n):=by
 have hg:∀ i cs,(cN cells off n sz)[i]?=some cs→i < n∧cs=rd cells (off+i * sz) sz:=fun i cs h=>by
  simp [cN] at h
  obtain ⟨a,h3,h4⟩:=h
  by_cases hi:i < n
  ·rw [List.getElem?_range hi] at h3; cases h3; exact ⟨hi,h4.symm⟩
  ·rw [List.getElem?_eq_none (by simp; omega)] at h3; cases h3
 have hm:∀ i,i < n→i * sz+sz≤n * sz:=fun i hi=>by rw [← Nat.succ_mul]; exact Nat.mul_le_mul_right _ hi
 refine .sl (fun i k=>c (off+i * sz+k)) (by simp [cN]) (Nat.le_refl _) (fun i cs h=>?_) (fun i cs k x h hx=>?_) (fun i cs k x h hx=>?_) rfl
 ·obtain ⟨hi,rfl⟩:=hg i cs h
  have:=hm i hi
  simp [rd]; omega
 ·obtain ⟨hi,rfl⟩:=hg i cs h
  rw [nJ] at hx
  split at hx
  ·have:=h1 _ x hx
   rw [show o+off+i * sz+k=o+(off+i * sz+k) by omega]; exact this
  ·cases hx
 ·obtain ⟨hi,rfl⟩:=hg i cs h
  rw [nJ] at hx
  split at hx
  ·exact h2 _ x hx
  ·cases hx
theorem aE8 {E:Env} (hE:E.Ok) {t e:TypeId} {n s by_:Nat} {z:List AV} (ht:E.ty t=some ⟨.array n e,s,by_,z⟩) {ei:TI} (he:E.ty e=some ei) (b o:Nat) (w:World) :
  (Instr.sliceAt t (.pointer (some ⟨b,o,none⟩)) none none none).run E.P w=.ok (.slice (some ⟨b,o,none⟩) n n) w:=by
 have hT:=hE t _ ht
 have hF:=hE e _ he
 simp only [Instr.sliceAt,Sem.run_bind,hT.underlying,Result.andThen_ok,Instr.sureAddr,Sem.run_pure,Instr.sliceBounds,pure_bind,hF.sizeOf,Nat.zero_mul,Addr.add_zero',ite_self,Nat.sub_zero]
theorem aLF {E:Env} (hE:E.Ok) {g:Gh} {H:Nat→Ent} {w:World} (hW:WRel g H w) {t:TypeId} {x:AV} {lo hi mx:Option AV} {vx:Value} {vlo vhi vmx:Option Value} (hx:VRel g x vx)
  (hlo:∀ a,lo=some a→∃ v,vlo=some v∧VRel g a v) (hlo':lo=none→vlo=none) (hhi:∀ a,hi=some a→∃ v,vhi=some v∧VRel g a v) (hhi':hi=none→vhi=none)
  (hmx:∀ a,mx=some a→∃ v,vmx=some v∧VRel g a v) (hmx':mx=none→vmx=none) {res:Res} (h:mH E H t x lo hi mx=some res) (hob:res.ob) :
  ∃ v g',(Instr.sliceAt t vx vlo vhi vmx).run E.P w=.ok v w∧VRel g' res.r v∧Evo g H w g' (app H res.U) w:=by
 unfold mH at h
 split at h
 ·rename_i _ _ _ s ht
  have hT:=hE t _ ht
  cases hx
  split at h
  ·rename_i l h' hl hh
   cases h
   obtain ⟨h0,h1,h2⟩:0≤l∧l≤h'∧h'≤s.data.toList.length:=hob
   have hb:=rC (P:=E.P) (g:=g) s.size s.size false hl (by simpa using hh) hlo hlo' hhi hhi' (hmx' rfl) h0 h1 (by simpa using h2) (Nat.le_refl _) w
   refine ⟨_,g,?_,.v _,.refl hW⟩
   have hv:vmx=none:=hmx' rfl
   subst hv
   simp only [Instr.sliceAt,Sem.run_bind,hT.underlying,Result.andThen_ok,Instr.slice,hb,Option.isSome_none,Bool.false_eq_true,if_false,Sem.run_pure]
   congr 2
   apply ByteArray.ext
   apply Array.ext'
   simp [cut,ByteArray.data_extract,List.take_drop]
  ·cases h
 ·rename_i e _ _ _ sz elems tok ht
  have hT:=hE t _ ht
  split at h
  ·rename_i l h' hl hh
   split at h
   ·rename_i hsz
    cases h
    obtain ⟨ei,hei,hs⟩:=Option.map_eq_some_iff.1 hsz
    have hF:=hE e _ hei
    obtain ⟨h0,h1,h2⟩:0≤l∧l≤h'∧h'≤elems.length:=hob
    have hx0:=hx
    cases hx with
    | sl c e1 e2 e3 e4 e5 e6 =>
     rename_i b o len cap
     subst e1
     have hb:=rC (P:=E.P) (g:=g) elems.length cap true hl hh hlo hlo' hhi hhi' (hmx' rfl) h0 h1 h2 e2 w
     have hv:vmx=none:=hmx' rfl
     subst hv
     refine ⟨_,g,?_,aE6 hx0 h0 h1 h2 cap (by omega) (Nat.le_refl _) .no (.inl rfl),.refl hW⟩
     simp only [Instr.sliceAt,Sem.run_bind,hT.underlying,Result.andThen_ok,Instr.slice,hb,hF.sizeOf,Sem.run_pure,Option.map_some,fO,hs]
     congr 2
     split<;>rfl
   ·cases h
  ·rename_i l h' k m hl hh
   split at h
   ·rename_i hsz
    obtain ⟨hsz,hsome,hmh⟩:=hsz
    cases h
    obtain ⟨ei,hei,hs⟩:=Option.map_eq_some_iff.1 hsz
    have hF:=hE e _ hei
    obtain ⟨h0,h1,h2⟩:0≤l∧l≤h'∧h'≤elems.length:=hob
    have hx0:=hx
    cases hx with
    | sl c e1 e2 e3 e4 e5 e6 =>
     rename_i b o len cap
     subst e1
     obtain ⟨vm,rfl,hvm⟩:=hmx _ rfl
     cases hvm
     have hb:=aLD (P:=E.P) (g:=g) (k:=k) elems.length cap true hl hh hsome hlo hlo' hhi hhi' h0 h1 (m:=m) (by omega) (by omega) w
     refine ⟨_,g,?_,aE6 hx0 h0 h1 h2 m.toNat (by omega) (by omega) .full (.inr ⟨rfl,by rw [hmh]⟩),.refl hW⟩
     simp only [Instr.sliceAt,Sem.run_bind,hT.underlying,Result.andThen_ok,Instr.slice,hb,hF.sizeOf,Sem.run_pure,Option.map_some,fO,hs]
     congr 2
     split<;>rfl
   ·cases h
  ·cases h
 ·rename_i e _ _ _ sz elems ht
  have hT:=hE t _ ht
  split at h
  ·rename_i l h' hl hh
   split at h
   ·rename_i hsz
    cases h
    obtain ⟨ei,hei,hs⟩:=Option.map_eq_some_iff.1 hsz
    have hF:=hE e _ hei
    obtain ⟨h0,h1,h2⟩:0≤l∧l≤h'∧h'≤elems.length:=hob
    have hv:vmx=none:=hmx' rfl
    subst hv
    cases hx with
    | asl0 =>
     have hb:=rC (P:=E.P) (g:=g) 0 0 true hl (by simpa using hh) hlo hlo' hhi hhi' rfl h0 h1 (by simpa using h2) (Nat.le_refl _) w
     have e1:l=0:=by simp at h2; omega
     have e2:h'=0:=by simp at h2; omega
     subst e1; subst e2
     rename_i ad
     cases ad with
     | none =>
      refine ⟨_,g,?_,.asl0 (a:=none),.refl hW⟩
      simp only [Instr.sliceAt,Sem.run_bind,hT.underlying,Result.andThen_ok,Instr.slice,hb,hF.sizeOf,Sem.run_pure,Option.map_none,ite_self]
      rfl
     | some ad =>
      refine ⟨_,g,?_,.asl0 (a:=some ad),.refl hW⟩
      simp only [Instr.sliceAt,Sem.run_bind,hT.underlying,Result.andThen_ok,Instr.slice,hb,hF.sizeOf,Sem.run_pure,Option.map_some]
      simp
    | asl hx =>
     have hx0:=hx
     cases hx with
     | sl c e1 e2 e3 e4 e5 e6 =>
      rename_i b o len cap
      subst e1
      have hb:=rC (P:=E.P) (g:=g) elems.length cap true hl hh hlo hlo' hhi hhi' rfl h0 h1 h2 e2 w
      refine ⟨_,g,?_,.asl (aE6 hx0 h0 h1 h2 cap (by omega) (Nat.le_refl _) .no (.inl rfl)),.refl hW⟩
      simp only [Instr.sliceAt,Sem.run_bind,hT.underlying,Result.andThen_ok,Instr.slice,hb,hF.sizeOf,Sem.run_pure,Option.map_some,fO,hs]
      congr 2
      split<;>rfl
   ·cases h
  ·cases h
 ·rename_i e _ _ _ ht
  have hT:=hE t _ ht
  cases hx
  split at h
  ·rename_i ei l h' hei hl hh
   have hF:=hE e _ hei
   cases h
   obtain ⟨rfl,rfl⟩:l=0∧h'=0:=hob
   have hb:=rC (P:=E.P) (g:=g) 0 0 true hl (by simpa using hh) hlo hlo' hhi hhi' (hmx' rfl) (Int.le_refl _) (Int.le_refl _) (by simp) (Nat.le_refl _) w
   have hv:vmx=none:=hmx' rfl
   subst hv
   refine ⟨_,g,?_,.v _,.refl hW⟩
   simp only [Instr.sliceAt,Sem.run_bind,hT.underlying,Result.andThen_ok,Instr.slice,hb,hF.sizeOf,Sem.run_pure,Option.map_none,ite_self]
   rfl
  ·rename_i ei l h' k m hei hl hh
   have hF:=hE e _ hei
   split at h
   ·rename_i hsome
    cases h
    obtain ⟨rfl,rfl,rfl⟩:l=0∧h'=0∧m=0:=hob
    obtain ⟨vm,rfl,hvm⟩:=hmx _ rfl
    cases hvm
    have hb:=aLD (P:=E.P) (g:=g) (k:=k) 0 0 true hl (by simpa using hh) hsome hlo hlo' hhi hhi' (Int.le_refl _) (Int.le_refl _) (m:=0) (by omega) (by omega) w
    refine ⟨_,g,?_,.v _,.refl hW⟩
    simp only [Instr.sliceAt,Sem.run_bind,hT.underlying,Result.andThen_ok,Instr.slice,hb,hF.sizeOf,Sem.run_pure,Option.map_none,ite_self]
    rfl
   ·cases h
  ·cases h
 ·rename_i xx n e _ _ _ ht
  split at h
  ·rename_i ei id off he
   have e1:vlo=none:=hlo' rfl
   have e2:vhi=none:=hhi' rfl
   have e3:vmx=none:=hmx' rfl
   subst e1; subst e2; subst e3
   cases hx with
   | ptr eρ =>
    rename_i b lo' n'
    split at h
    ·rename_i cells hH
     split at h
     ·rename_i hlen
      cases h
      obtain ⟨g',hev⟩:=Evo.freeze hW hH
      have hent:=hev.rel.ent id
      rw [aR] at hent
      obtain ⟨b',n'',e4,e5⟩:=hent
      have:=hev.le.ρ _ _ eρ
      rw [this] at e4; cases e4
      refine ⟨_,g',aE8 hE ht he b off w,?_,hev⟩
      have:=aE7 (g:=g') (cells:=cells) (b:=b) (o:=0) (fun k=>(g'.I b k).getD undef)
       (fun k x hk=>by obtain ⟨c,h1,_⟩:=e5 k x hk; simp [h1]) (fun k x hk=>by obtain ⟨c,h1,h2⟩:=e5 k x hk; simp only [h1,Option.getD_some]; exact h2) off n ei.size hlen
      rwa [Nat.zero_add] at this
     ·cases h
    ·rename_i cells hH
     split at h
     ·rename_i hlen
      cases h
      have hent:=hW.ent id
      rw [hH] at hent
      obtain ⟨b',n'',e4,e5⟩:=hent
      rw [eρ] at e4; cases e4
      refine ⟨_,g,aE8 hE ht he b off w,?_,.refl hW⟩
      have:=aE7 (g:=g) (cells:=cells) (b:=b) (o:=0) (fun k=>(g.I b k).getD undef)
       (fun k x hk=>by obtain ⟨c,h1,_⟩:=e5 k x hk; simp [h1]) (fun k x hk=>by obtain ⟨c,h1,h2⟩:=e5 k x hk; simp only [h1,Option.getD_some]; exact h2) off n ei.size hlen
      rwa [Nat.zero_add] at this
     ·cases h
    ·cases h
  ·rename_i ei cells off he
   have e1:vlo=none:=hlo' rfl
   have e2:vhi=none:=hhi' rfl
   have e3:vmx=none:=hmx' rfl
   subst e1; subst e2; subst e3
   split at h
   ·rename_i hlen
    cases h
    cases hx with
    | iptr c e4 e5=>exact ⟨_,g,aE8 hE ht he _ _ w,aE7 c e4 e5 off n ei.size hlen,.refl hW⟩
   ·cases h
  ·cases h
 ·cases h
end Go.Ev
