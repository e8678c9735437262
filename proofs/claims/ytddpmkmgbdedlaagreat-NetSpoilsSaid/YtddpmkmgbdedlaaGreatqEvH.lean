/-
The abstract evaluator: slices pE by append,texts and bytes turned into each other.
-/
import Derived.Test.YtddpmkmgbdedlaaGreatqEvG
set_option linter.unusedVariables false
set_option linter.unusedSimpArgs false
namespace Go.Ev
open Go
def rE (b:UInt8):List AV:=[.v (.int .u8 b.toNat)]
def iF (s:ByteArray):List (List AV):=s.data.toList.map rE
def iU (ei xi:TI) (x:AV):Option (List (List AV)) :=
 match xi.d,x with
 | .slice _,.sl sz elems _=>if sz=ei.size then some elems else none
 | .slice _,.asl sz elems=>if sz=ei.size then some elems else none
 | .slice _,.nsl sz elems=>if sz=ei.size then some elems else none
 | .slice _,.v (.slice none 0 0)=>some []
 | .string,.v (.string s)=>if ei.size=1 then some (iF s) else none
 | _,_=>none
def lH (E : Env) (H : Nat → Ent) (n : Nat) (ats : Array TypeId) (s x : AV) : Option Res :=
 match ats[0]?,ats[1]? with
 | some sT, some xT =>
  match E.ty sT,E.ty xT with
  | some ⟨.slice e, _, _, _⟩, some xi =>
   match E.ty e with
   | some ei =>
    if ei.bytes=0∨2 ^ 20 < ei.bytes then none else
    match iU ei xi x with
    | some xs =>
     match s with
     | .v (.slice none 0 0)=>some { r:=bif xs.isEmpty then s else .sl ei.size xs (.tail n),U:=[(n,.tail)],ob:=xs.length * ei.bytes≤2 ^ 46 }
     | .sl sz elems .full=>if sz=ei.size then some { r:=bif xs.isEmpty then s else .sl sz (elems++xs) (.tail n),U:=[(n,.tail)],ob:=(elems.length+xs.length) * ei.bytes≤2 ^ 46 } else none
     | .sl sz elems (.tail t) =>
      match H t with
      | .tail=>if sz=ei.size∧(xs.all fun c=>c.all AV.one)=true then some { r:=.sl sz (elems++xs) (.tail n),U:=[(t,.dead),(n,.tail)],ob:=(elems.length+xs.length) * ei.bytes≤2 ^ 46 } else none
      | _=>none
     | _=>none
    | none=>none
   | none=>none
  | _,_=>none
 | _,_=>none
theorem aLL (need:Nat):∀ (r c:Nat),Builtin.growBy need r c≤max c (need+(need+768) / 4)
 | 0,c=>by simp only [Builtin.growBy]; omega
 | r + 1, c => by
  simp only [Builtin.growBy]
  split
  ·omega
  ·have:=aLL need r (c+(c+768) / 4)
   omega
theorem aLM (need old:Nat) (h:old≤need):Builtin.nextslicecap need old≤2 * need+1024:=by
 unfold Builtin.nextslicecap
 split
 ·omega
 ·split
  ·omega
  ·have:=aLL need 4 old
   omega
theorem rF {P:Program} {g:Gh} {H:Nat→Ent} {w:World} (hW:WRel g H w) {ei xi:TI} {x:AV} {vx:Value} (hx:VRel g x vx) {xs:List (List AV)} (h:iU ei xi x=some xs) :
  (Builtin.lenOf vx).run P w=.ok xs.length w∧(∀ (i:Nat) (cs:List AV),xs[i]?=some cs→cs.length=ei.size) ∧
  ∃ cs:Array Value,(Builtin.firstCells ei.size xs.length vx).run P w=.ok cs w∧LRel g xs.flatten cs.toList:=by
 unfold iU at h
 have slcase:∀ {sz:Nat} {elems:List (List AV)} {tok:Tok},VRel g (.sl sz elems tok) vx→sz=ei.size → 
   (Builtin.lenOf vx).run P w=.ok elems.length w∧(∀ (i:Nat) (cs:List AV),elems[i]?=some cs→cs.length=ei.size) ∧
   ∃ cs:Array Value,(Builtin.firstCells ei.size elems.length vx).run P w=.ok cs w∧LRel g elems.flatten cs.toList:=fun hsl hsz=>by
  have hsl0:=hsl
  cases hsl with
  | sl c e1 e2 e3 e4 e5 e6 =>
   obtain ⟨l1,l2,l3,_,cs,l4,l5,_⟩:=mI (P:=P) hW hsl0
   subst hsz; subst l1
   exact ⟨by simp [Builtin.lenOf],l3,cs,by simp only [Builtin.firstCells]; exact l4,l5⟩
 split at h
 ·split at h
  ·cases h; exact slcase hx ‹_›
  ·cases h
 ·split at h
  ·cases h
   cases hx with
   | asl0=>rename_i ad; exact ⟨by simp [Builtin.lenOf],by simp,#[],by cases ad<;>simp [Builtin.firstCells,loadCells,loadCellsFrom],.nil⟩
   | asl hx=>exact slcase hx ‹_›
  ·cases h
 ·split at h
  ·cases h
   cases hx with
   | nsl hx e =>
    cases hx with
    | asl0=>rename_i ad; exact ⟨by simp [Builtin.lenOf],by simp,#[],by cases ad<;>simp [Builtin.firstCells,loadCells,loadCellsFrom],.nil⟩
    | asl hx=>exact slcase hx ‹_›
  ·cases h
 ·cases h; cases hx
  exact ⟨by simp [Builtin.lenOf],by simp,#[],by simp [Builtin.firstCells],.nil⟩
 ·rename_i s _
  split at h
  ·rename_i hs
   cases h; cases hx
   refine ⟨by simp [Builtin.lenOf,iF],fun i cs h=>?_,_,by simp only [Builtin.firstCells,Sem.run_pure]; rfl,?_⟩
   ·simp [iF] at h
    obtain ⟨b,_,rfl⟩:=h
    simp [rE,hs]
   ·have hfl:(iF s).flatten=(s.data.toList.map fun b=>Value.int .u8 b.toNat).map .v:=by
     simp only [iF]
     induction s.data.toList with
     | nil=>rfl
     | cons b l ih=>simp [rE,ih]
    have hcs:(((s.extract 0 (iF s).length).data.map fun b=>Value.int .u8 b.toNat)).toList=s.data.toList.map fun b=>Value.int .u8 b.toNat:=by
     simp [iF,ByteArray.data_extract]
    rw [hfl,hcs]
    exact LRel.of_v _
  ·cases h
 ·cases h
theorem pE {E:Env} {g:Gh} {H:Nat→Ent} {w:World} (hW:WRel g H w) {id:Nat} (hid:H id=.unborn) {sz:Nat} {elems:List (List AV)} (hs:∀ (i:Nat) (cs:List AV),elems[i]?=some cs→cs.length=sz)
  (cs rest:Array Value) (hr:LRel g elems.flatten cs.toList) (T:TypeId) (cap:Nat) (hcap:elems.length≤cap) (hsz:(cs++rest).size=cap * sz) (nd:Nat) :
  ∃ g',VRel g' (.sl sz elems (.tail id)) (.slice (some ⟨w.heap.size,0,none⟩) elems.length cap) ∧
   Evo g H w g' (upd H id .tail) { w with drawn:=nd,heap:=w.heap.push (.cells (cs++rest) T) }:=by
 have hd:=hW.drew nd
 have hcs:cs.size=elems.length * sz:=by
  have:=hr.1
  rw [dX elems hs] at this
  simpa using this.symm
 obtain ⟨h1,h2,h3⟩:=Evo.fixedTail hd hid (cs++rest) T cs.size (0,0) (by simp) (fun o _ _=>by simp) _ rfl
 refine ⟨_,?_,(Evo.drew hW nd).trans h3⟩
 refine rD rfl hcap hs cs.toList (hr.mono h3.le) (fun k hk=>?_) ⟨(cs++rest).size,?_,?_⟩
 ·have hk':k < cs.size:=by simpa using hk
  rw [Nat.zero_add,h1 k hk',Array.getElem?_append_left hk']
  simp
 ·rw [h2,Nat.zero_add,hcs]
 ·rw [Nat.zero_add,hsz]; exact Nat.le_refl _
theorem mJ (zero:Array Value) (n:Nat):(Builtin.zeroCells zero n).size=n * zero.size:=by simp [Builtin.zeroCells]
section
variable {E:Env} (hE:E.Ok) {w:World} {sT xT e:TypeId} {ats:Array TypeId} {s1 b1:Nat} {z1:List AV} {xi ei:TI} {vx:Value} {n:Nat} {base:Option Addr} {sLen sCap:Nat}
 (h0:ats[0]?=some sT) (h1:ats[1]?=some xT) (hsT:E.ty sT=some ⟨.slice e,s1,b1,z1⟩) (hxT:E.ty xT=some xi) (he:E.ty e=some ei) (hni:∀ k,xi.d≠.int k)
 (hlen:(Builtin.lenOf vx).run E.P w=.ok n w) (ty:TypeId)
include hE h0 h1 hsT hxT he hni hlen
theorem kF {cs:Array Value} (hfirst:(Builtin.firstCells ei.size n vx).run E.P w=.ok cs w) (hroom:sLen+n≤sCap) :
  (Builtin.append_ ats ty #[.slice base sLen sCap,vx]).run E.P w =
   match base with
   | some a=>((storeCells (a.add (sLen * ei.size)) cs.toList).run E.P w).andThen fun _ w'=>.ok (.slice base (sLen+n) sCap) w'
   | none=>.ok (.slice base (sLen+n) sCap) w:=by
 have hT:=hE _ _ hsT
 have hX:=hE _ _ hxT
 have hF:=hE _ _ he
 simp only [Builtin.append_,h0,h1,List.getElem?_toArray,List.getElem?_cons_zero,List.getElem?_cons_succ,Sem.run_bind,hT.underlying,Result.andThen_ok,hF.sizeOf,hX.underlying,Sem.run_pure]
 simp only [Bool.false_eq_true,if_false,hlen,Result.andThen_ok,if_pos hroom,Bool.not_false,if_true,hfirst,Sem.run_bind]
 cases base<;>simp
theorem rG {info:TypeInfo} {z:Value} (hinfo:E.P.info? e=some info) (hib:info.bytes=ei.bytes) (hz0:info.zero=some z) {cs co:Array Value}
  (hfirst:(Builtin.firstCells ei.size n vx).run E.P { w with drawn:=w.drawn+1 }=.ok cs { w with drawn:=w.drawn+1 })
  (hold:(Builtin.firstCells ei.size sLen (.slice base sLen sCap)).run E.P { w with drawn:=w.drawn+1 }=.ok co { w with drawn:=w.drawn+1 })
  (hroom:¬ sLen+n≤sCap) (hcap:sCap≤sLen+n) (hby:ei.bytes≠0) (hby2:ei.bytes≤2 ^ 20) (hbig:(sLen+n) * ei.bytes≤2 ^ 46) :
  ∃ cap,sLen+n≤cap∧(Builtin.append_ ats ty #[.slice base sLen sCap,vx]).run E.P w =
   .ok (.slice (some ⟨w.heap.size,0,none⟩) (sLen+n) cap) { w with drawn:=w.drawn+1,heap:=w.heap.push (.cells (co++cs++Builtin.zeroCells z.cells (cap - (sLen+n))) e) }:=by
 have hT:=hE _ _ hsT
 have hX:=hE _ _ hxT
 have hF:=hE _ _ he
 have hnext:=aLM (sLen+n) sCap hcap
 have hmul:Builtin.nextslicecap (sLen+n) sCap * ei.bytes≤(2 * (sLen+n)+1024) * ei.bytes:=Nat.mul_le_mul_right _ hnext
 have hmul2:(2 * (sLen+n)+1024) * ei.bytes=2 * ((sLen+n) * ei.bytes)+1024 * ei.bytes:=by rw [Nat.add_mul,Nat.mul_assoc]
 have hno:¬ Builtin.nextslicecap (sLen+n) sCap * ei.bytes > 2 ^ 48:=by
  generalize Builtin.nextslicecap (sLen+n) sCap * ei.bytes=q at *
  generalize (sLen+n) * ei.bytes=q2 at *
  omega
 refine ⟨(sLen+n)+w.tape w.drawn (.appendCap (sLen+n) sCap e) % (2 ^ 63 - (sLen+n)),Nat.le_add_right _ _,?_⟩
 simp only [Builtin.append_,h0,h1,List.getElem?_toArray,List.getElem?_cons_zero,List.getElem?_cons_succ,Sem.run_bind,hT.underlying,Result.andThen_ok,hF.sizeOf,hX.underlying,Sem.run_pure]
 simp only [Bool.false_eq_true,if_false,hlen,Result.andThen_ok,if_neg hroom,Bool.not_false,if_true,Sem.run_bind,typeInfo,run_program,hinfo,Sem.run_pure,hib,hby,false_or,and_false,hno,
  run_choose,Question.forced,Question.cut,run_askRoom,hold,hfirst,zeroValue,hz0,newRow,run_newObj,pure_bind]
end
theorem xU {ei xi:TI} {x:AV} {xs:List (List AV)} (h:iU ei xi x=some xs):∀ k,xi.d≠.int k:=by
 intro k e
 unfold iU at h
 rw [e] at h
 simp at h
theorem aBc {E:Env} (hE:E.Ok) {g:Gh} {H:Nat→Ent} {w:World} (hW:WRel g H w) {n:Nat} (hn:H n=.unborn) {ats:Array TypeId} {s x:AV} {vs vx:Value} (hs:VRel g s vs) (hx:VRel g x vx)
  {res:Res} (h:lH E H n ats s x=some res) (hob:res.ob) (ty:TypeId) :
  ∃ v w' g',(Builtin.append_ ats ty #[vs,vx]).run E.P w=.ok v w'∧VRel g' res.r v∧Evo g H w g' (app H res.U) w':=by
 unfold lH at h
 split at h
 ·rename_i sT xT h0 h1
  split at h
  ·rename_i e _ _ _ xi hsT hxT
   split at h
   ·rename_i ei he
    have hF:=hE e _ he
    split at h
    ·cases h
    ·rename_i hby
     have hby0:ei.bytes≠0:=fun e=>hby (.inl e)
     have hby1:ei.bytes≤2 ^ 20:=by omega
     split at h
     ·rename_i xs hsrc
      have hni:=xU hsrc
      obtain ⟨info,hinfo,hisz,hib,z,hz,hzr⟩:=hF.info
      have hzsz:z.cells.size=ei.size:=by have:=(hzr g).1; rw [hF.zl] at this; simpa using this.symm
      obtain ⟨hlen,hxsz,cs,hfirst,hcs⟩:=rF (P:=E.P) hW hx hsrc
      obtain ⟨_,_,cs1,hfirst1,hcs1⟩:=rF (P:=E.P) (hW.drew (w.drawn+1)) hx hsrc
      have hcsz:cs.size=xs.length * ei.size:=by have:=hcs.1; rw [dX xs hxsz] at this; simpa using this.symm
      have hcsz1:cs1.size=xs.length * ei.size:=by have:=hcs1.1; rw [dX xs hxsz] at this; simpa using this.symm
      have hrest:∀ m,(Builtin.zeroCells z.cells m).size=m * ei.size:=fun m=>by rw [mJ,hzsz]
      have both:∀ {elems:List (List AV)} {co:Array Value},(∀ (i:Nat) (cs:List AV),elems[i]?=some cs→cs.length=ei.size)→LRel g elems.flatten co.toList →
        (∀ (i:Nat) (cs:List AV),(elems++xs)[i]?=some cs→cs.length=ei.size)∧LRel g (elems++xs).flatten (co++cs1).toList:=fun hes hco=>by
       refine ⟨fun i c h=>?_,?_⟩
       ·rw [List.getElem?_append] at h
        split at h
        ·exact hes _ _ h
        ·exact hxsz _ _ h
       ·rw [List.flatten_append,Array.toList_append]; exact hco.append hcs1
      have grow:∀ {elems:List (List AV)} {co:Array Value} {base:Option Addr} {sCap:Nat},(∀ (i:Nat) (cs:List AV),elems[i]?=some cs→cs.length=ei.size)→LRel g elems.flatten co.toList →
        (Builtin.firstCells ei.size elems.length (.slice base elems.length sCap)).run E.P { w with drawn:=w.drawn+1 }=.ok co { w with drawn:=w.drawn+1 } →
        ¬ elems.length+xs.length≤sCap→sCap≤elems.length+xs.length→(elems.length+xs.length) * ei.bytes≤2 ^ 46 →
        ∃ v w' g',(Builtin.append_ ats ty #[.slice base elems.length sCap,vx]).run E.P w=.ok v w'∧VRel g' (.sl ei.size (elems++xs) (.tail n)) v∧Evo g H w g' (upd H n .tail) w':=by
       intro elems co base sCap hes hco hold hroom hcap hbig
       obtain ⟨cap,hc,hrun⟩:=rG hE h0 h1 hsT hxT he hni hlen ty hinfo hib hz hfirst1 hold hroom hcap hby0 hby1 hbig
       obtain ⟨hes2,hr2⟩:=both hes hco
       have hcosz:co.size=elems.length * ei.size:=by have:=hco.1; rw [dX elems hes] at this; simpa using this.symm
       obtain ⟨g',k1,k2⟩:=pE (E:=E) hW hn hes2 (co++cs1) (Builtin.zeroCells z.cells (cap - (elems.length+xs.length))) hr2 e cap (by simpa using hc)
        (by rw [Array.size_append,Array.size_append,hrest,hcosz,hcsz1,← Nat.add_mul,← Nat.add_mul]; congr 1; omega) (w.drawn+1)
       exact ⟨_,_,g',hrun,by simpa using k1,k2⟩
      split at h
      ·cases h
       cases hs
       cases xs with
       | nil =>
        refine ⟨_,_,g,kF hE h0 h1 hsT hxT he hni hlen ty hfirst (Nat.le_refl _),.v _,?_⟩
        simp only [app]
        refine Evo.forget' hW _ fun k=>?_
        by_cases hk:k=n
        ·subst hk; exact .inr (.inr ⟨aR _ _ _,hW.fresh _ hn⟩)
        ·exact .inl (aJ _ _ hk)
       | cons y ys =>
        obtain ⟨v,w',g',k1,k2,k3⟩:=grow (elems:=[]) (co:=#[]) (base:=none) (sCap:=0) (by simp) .nil (by simp [Builtin.firstCells]) (by simp) (by simp) (by simpa using hob)
        exact ⟨v,w',g',k1,by simpa using k2,by simpa [app] using k3⟩
      ·rename_i sz elems
       split at h
       ·rename_i hsz
        cases h
        have hs0:=hs
        cases hs with
        | sl c e1 e2 e3 e4 e5 e6 =>
         rename_i b o len cap
         subst hsz
         have hcap:cap=len:=e6
         subst hcap
         subst e1
         cases xs with
         | nil =>
          have hc0:cs=#[]:=Array.eq_empty_of_size_eq_zero (by simpa using hcsz)
          subst hc0
          refine ⟨.slice (some ⟨b,o,none⟩) elems.length elems.length,w,g,?_,by simpa using hs0,?_⟩
          ·rw [kF (sLen:=elems.length) (sCap:=elems.length) (base:=some ⟨b,o,none⟩) hE h0 h1 hsT hxT he hni hlen ty hfirst (by simp)]
           simp [storeCells]
          ·simp only [app]
           refine Evo.forget' hW _ fun k=>?_
           by_cases hk:k=n
           ·subst hk; exact .inr (.inr ⟨aR _ _ _,hW.fresh _ hn⟩)
           ·exact .inl (aJ _ _ hk)
         | cons y ys =>
          obtain ⟨_,_,l3,_,co,l4,l5,_⟩:=mI (P:=E.P) (hW.drew (w.drawn+1)) hs0
          obtain ⟨v,w',g',k1,k2,k3⟩:=grow (elems:=elems) (co:=co) (base:=some ⟨b,o,none⟩) (sCap:=elems.length) l3 l5 (by simp only [Builtin.firstCells]; exact l4) (by simp) (by simp) hob
          exact ⟨v,w',g',k1,by simpa using k2,by simpa [app] using k3⟩
       ·cases h
      ·rename_i sz elems t
       split at h
       ·rename_i hH
        split at h
        ·rename_i hc
         obtain ⟨hsz,hone⟩:=hc
         cases h
         have hs0:=hs
         cases hs with
         | sl c e1 e2 e3 e4 e5 e6 =>
          rename_i b o len cap
          subst hsz
          subst e1
          obtain ⟨n',hρ,hcapn⟩:=e6
          by_cases hroom:elems.length+xs.length≤cap
          ·have hlive:(H t).live:=by rw [hH]; trivial
           obtain ⟨bc,T,fr,g1,g2,g3,g4⟩:=hW.tail_at hH hρ
           have hmul:(elems.length+xs.length) * ei.size≤cap * ei.size:=Nat.mul_le_mul_right _ hroom
           rw [Nat.add_mul] at hmul
           have hcl:cs.toList.length=xs.length * ei.size:=by rw [Array.length_toList,hcsz]
           have hext:=Evo.extend hW (id:=t) (id2:=n) (lo:=o+elems.length * ei.size) hH hn hρ cs.toList (by omega)
           obtain ⟨k1,k2,k3⟩:=hext
           have hall:xs.flatten.all AV.one=true:=by
            rw [List.all_flatten]; exact hone
           have hst:=run_storeCells_cells (P:=E.P) b (o+elems.length * ei.size) cs.toList 0 w (fun j hj=>by
             rw [Array.length_toList,hcsz] at hj
             rw [cI g1]
             simp [show o+elems.length * ei.size+j < bc.size by omega])
            (fun j hj=>by
             rw [Array.length_toList,hcsz] at hj
             simp only [World.frozen?,g1]
             have:=g3 (o+elems.length * ei.size+j) (by omega) (by omega)
             simpa using this)
            (qX hcs hall)
           refine ⟨.slice (some ⟨b,o,none⟩) (elems.length+xs.length) cap,_,_,?_,?_,k3⟩
           ·rw [kF hE h0 h1 hsT hxT he hni hlen ty hfirst hroom]
            simp only [fO,hst,Result.andThen_ok,Nat.add_zero]
           ·have hes2:∀ (i:Nat) (cs:List AV),(elems++xs)[i]?=some cs→cs.length=ei.size:=fun i c h=>by
             rw [List.getElem?_append] at h
             split at h
             ·exact e3 _ _ h
             ·exact hxsz _ _ h
            obtain ⟨_,_,_,_,co,_,l5,l6⟩:=mI (P:=E.P) hW hs0
            have hcosz:co.size=elems.length * ei.size:=by have:=l5.1; rw [dX elems e3] at this; simpa using this.symm
            refine rD (by simp) (by omega) hes2 (co++cs).toList ?_ (fun k hk=>?_) ⟨n',?_,hcapn⟩
            ·rw [List.flatten_append,Array.toList_append]
             exact (l5.mono k3.le).append (hcs.mono k3.le)
            ·rw [Array.toList_append, List.getElem?_append]
             split
             ·rename_i hlt
              have hlt':k < co.size:=by simpa using hlt
              have:=l6 k hlt'
              rw [Array.getElem?_toList,← this]
              have hsome:∃ v,co[k]?=some v:=⟨co[k],Array.getElem?_eq_getElem hlt'⟩
              obtain ⟨v,hv⟩:=hsome
              rw [this,hv]
              exact k3.le.I _ _ _ (by rw [this,hv])
             ·rename_i hge
              have hge':co.size≤k:=by simpa using hge
              have hk2:k - co.size < cs.toList.length:=by
               have:k < co.size+cs.size:=by simpa using hk
               simp; omega
              have:=k1 (k - co.size) hk2
              rw [show o+elems.length * ei.size+(k - co.size)=o+k by omega] at this
              rw [this]; simp
            ·rw [k2,hcl,Nat.add_mul,Nat.add_assoc]
          ·obtain ⟨_,_,l3,_,co,l4,l5,_⟩:=mI (P:=E.P) (hW.drew (w.drawn+1)) hs0
           obtain ⟨v,w',g',k1,k2,k3⟩:=grow (elems:=elems) (co:=co) (base:=some ⟨b,o,none⟩) (sCap:=cap) l3 l5 (by simp only [Builtin.firstCells]; exact l4) hroom (by omega) hob
           refine ⟨v,w',g',k1,k2,k3.trans (Evo.forget k3.rel _ fun k=>?_)⟩
           have htn:t≠n:=fun e=>by subst e; rw [hH] at hn; cases hn
           simp only [app]
           by_cases hk:k=n
           ·subst hk; left; rw [aR,aR]
           ·rw [aJ _ _ hk]
            by_cases hk2:k=t
            ·subst hk2; right; rw [aR]
            ·left; rw [aJ _ _ hk2,aJ _ _ hk]
        ·cases h
       ·cases h
      ·cases h
     ·cases h
   ·cases h
  ·cases h
 ·cases h
def xV (E : Env) (H : Nat → Ent) (n : Nat) (ats : Array TypeId) (s x : AV) : Option Res :=
 match s with
 | .gsl sz elems t =>
  match ats[0]?,ats[1]? with
  | some sT, some xT =>
   match E.ty sT,E.ty xT with
   | some ⟨.slice e, _, _, _⟩, some xi =>
    match E.ty e with
    | some ei =>
     if ei.bytes=0∨2 ^ 20 < ei.bytes then none else
     match iU ei xi x,H t with
     | some xs,.tail=>if sz=ei.size∧(xs.all fun c=>c.all AV.one)=true then some { r:=.gsl sz (elems++xs) n,U:=[(t,.dead),(n,.tail)],ob:=(elems.length+xs.length) * ei.bytes≤2 ^ 46 } else none
     | _,_=>none
    | none=>none
   | _,_=>none
  | _,_=>none
 | s=>lH E H n ats s x
theorem aFb {E:Env} (hE:E.Ok) {g:Gh} {H:Nat→Ent} {w:World} (hW:WRel g H w) {n:Nat} (hn:H n=.unborn) {ats:Array TypeId} {s x:AV} {vs vx:Value} (hs:VRel g s vs) (hx:VRel g x vx) {res:Res}
  (h:xV E H n ats s x=some res) (hob:res.ob) (ty:TypeId) :
  ∃ v w' g',(Builtin.append_ ats ty #[vs,vx]).run E.P w=.ok v w'∧VRel g' res.r v∧Evo g H w g' (app H res.U) w':=by
 unfold xV at h
 split at h
 ·rename_i sz elems t
  split at h
  ·rename_i sT xT h0 h1
   split at h
   ·rename_i e s1 b1 z1 xi hsT hxT
    split at h
    ·rename_i ei he
     split at h
     ·cases h
     ·rename_i hby
      split at h
      ·rename_i xs hsrc hH
       split at h
       ·rename_i hc
        obtain ⟨hsz,hone⟩:=hc
        cases h
        have htn:t≠n:=fun e=>by subst e; rw [hH] at hn; cases hn
        have full:∀ {g':Gh} {w':World},Evo g H w g' (app H [(n,.tail)]) w'→Evo g H w g' (app H [(t,.dead),(n,.tail)]) w':=fun {g' w'} hev=>by
         refine hev.trans (Evo.forget hev.rel _ fun k=>?_)
         simp only [app]
         by_cases hk:k=n
         ·subst hk; left; rw [aR,aR]
         ·rw [aJ _ _ hk,aJ _ _ hk]
          by_cases hk2:k=t
          ·subst hk2; right; rw [aR]
          ·left; rw [aJ _ _ hk2]
        subst hsz
        cases hs with
        | gslN =>
         have h':lH E H n ats (.v (.slice none 0 0)) x=some { r:=bif xs.isEmpty then .v (.slice none 0 0) else .sl ei.size xs (.tail n),U:=[(n,.tail)],ob:=xs.length * ei.bytes≤2 ^ 46 }:=by
          unfold lH
          simp only [h0,h1,hsT,hxT,he,if_neg hby,hsrc]
         obtain ⟨v,w',g',k1,k2,k3⟩:=aBc hE hW hn (.v _) hx h' (by simpa using hob) ty
         refine ⟨v,w',g',k1,?_,full k3⟩
         cases xs with
         | nil=>simp only [List.isEmpty_nil,cond_true] at k2; cases k2; exact .gslN
         | cons y ys=>exact .gslT (by simpa using k2)
        | gslF hs =>
         have h':lH E H n ats (.sl ei.size elems .full) x=some { r:=bif xs.isEmpty then .sl ei.size elems .full else .sl ei.size (elems++xs) (.tail n),U:=[(n,.tail)],ob:=(elems.length+xs.length) * ei.bytes≤2 ^ 46 }:=by
          unfold lH
          simp only [h0,h1,hsT,hxT,he,if_neg hby,hsrc,if_pos]
         obtain ⟨v,w',g',k1,k2,k3⟩:=aBc hE hW hn hs hx h' hob ty
         refine ⟨v,w',g',k1,?_,full k3⟩
         cases xs with
         | nil=>simp only [List.isEmpty_nil,cond_true] at k2; rw [List.append_nil]; exact .gslF k2
         | cons y ys=>exact .gslT (by simpa using k2)
        | gslT hs =>
         have h':lH E H n ats (.sl ei.size elems (.tail t)) x=some { r:=.sl ei.size (elems++xs) (.tail n),U:=[(t,.dead),(n,.tail)],ob:=(elems.length+xs.length) * ei.bytes≤2 ^ 46 }:=by
          unfold lH
          simp only [h0,h1,hsT,hxT,he,if_neg hby,hsrc,hH]
          simp only [true_and,hone,if_true]
         obtain ⟨v,w',g',k1,k2,k3⟩:=aBc hE hW hn hs hx h' hob ty
         exact ⟨v,w',g',k1,.gslT k2,k3⟩
       ·cases h
      ·cases h
    ·cases h
   ·cases h
  ·cases h
 ·exact aBc hE hW hn hs hx h hob ty
theorem aQk {E:Env} (hE:E.Ok) {g:Gh} {H:Nat→Ent} {w:World} (hW:WRel g H w) {ats:Array TypeId} {x:AV} {vs vx:Value} {sT xT e:TypeId} {s1 b1 t:Nat} {z1:List AV} {xi ei:TI}
  {elems xs:List (List AV)} (h0:ats[0]?=some sT) (h1:ats[1]?=some xT) (hsT:E.ty sT=some ⟨.slice e,s1,b1,z1⟩) (hxT:E.ty xT=some xi) (he:E.ty e=some ei) (hby:¬ (ei.bytes=0∨2 ^ 20 < ei.bytes))
  (hs:VRel g (.gsl ei.size elems t) vs) (hx:VRel g x vx) (hsrc:iU ei xi x=some xs) (hH:H t=.tail) (hone:(xs.all fun c=>c.all AV.one)=true) (hob:(elems.length+xs.length) * ei.bytes≤2 ^ 46) (ty:TypeId) :
  ∃ v w' g',(Builtin.append_ ats ty #[vs,vx]).run E.P w=.ok v w'∧VRel g' .any1 v∧Evo g H w g' H w':=by
 have hF:=hE e _ he
 have hby0:ei.bytes≠0:=fun e=>hby (.inl e)
 have hby1:ei.bytes≤2 ^ 20:=by omega
 have hni:=xU hsrc
 obtain ⟨info,hinfo,hisz,hib,z,hz,hzr⟩:=hF.info
 obtain ⟨hlen,hxsz,cs,hfirst,hcs⟩:=rF (P:=E.P) hW hx hsrc
 obtain ⟨_,_,cs1,hfirst1,hcs1⟩:=rF (P:=E.P) (hW.drew (w.drawn+1)) hx hsrc
 have hcsz:cs.size=xs.length * ei.size:=by have:=hcs.1; rw [dX xs hxsz] at this; simpa using this.symm
 have grow:∀ {el:List (List AV)} {co:Array Value} {base:Option Addr} {sCap:Nat},el.length≤elems.length →
   (Builtin.firstCells ei.size el.length (.slice base el.length sCap)).run E.P { w with drawn:=w.drawn+1 }=.ok co { w with drawn:=w.drawn+1 } →
   ¬ el.length+xs.length≤sCap→sCap≤el.length+xs.length →
   ∃ v w' g',(Builtin.append_ ats ty #[.slice base el.length sCap,vx]).run E.P w=.ok v w'∧VRel g' .any1 v∧Evo g H w g' H w':=by
  intro el co base sCap hel hold hroom hcap
  have hbig:(el.length+xs.length) * ei.bytes≤2 ^ 46:=Nat.le_trans (Nat.mul_le_mul_right _ (by omega)) hob
  obtain ⟨cap,hc,hrun⟩:=rG hE h0 h1 hsT hxT he hni hlen ty hinfo hib hz hfirst1 hold hroom hcap hby0 hby1 hbig
  obtain ⟨_,hev⟩:=Evo.fixed (hW.drew (w.drawn+1)) (co++cs1++Builtin.zeroCells z.cells (cap - (el.length+xs.length))) e 0
  exact ⟨_,_,_,hrun,.any1 rfl,(Evo.drew hW (w.drawn+1)).trans hev⟩
 cases hs with
 | gslN =>
  cases xs with
  | nil=>exact ⟨_,_,g,kF hE h0 h1 hsT hxT he hni hlen ty hfirst (Nat.le_refl _),.any1 rfl,.refl hW⟩
  | cons y ys =>
   exact grow (el:=[]) (co:=#[]) (base:=none) (sCap:=0) (by simp) (by simp [Builtin.firstCells]) (by simp) (by simp)
 | gslF hs =>
  have hs0:=hs
  cases hs with
  | sl c e1 e2 e3 e4 e5 e6 =>
   rename_i b o len cap
   have hcap:cap=len:=e6
   subst hcap
   subst e1
   cases xs with
   | nil =>
    have hc0:cs=#[]:=Array.eq_empty_of_size_eq_zero (by simpa using hcsz)
    subst hc0
    refine ⟨.slice (some ⟨b,o,none⟩) elems.length elems.length,w,g,?_,.any1 rfl,.refl hW⟩
    rw [kF (sLen:=elems.length) (sCap:=elems.length) (base:=some ⟨b,o,none⟩) hE h0 h1 hsT hxT he hni hlen ty hfirst (by simp)]
    simp [storeCells]
   | cons y ys =>
    obtain ⟨_,_,l3,_,co,l4,l5,_⟩:=mI (P:=E.P) (hW.drew (w.drawn+1)) hs0
    exact grow (el:=elems) (co:=co) (base:=some ⟨b,o,none⟩) (sCap:=elems.length) (Nat.le_refl _) (by simp only [Builtin.firstCells]; exact l4) (by simp) (by simp)
 | gslT hs =>
  have hs0:=hs
  cases hs with
  | sl c e1 e2 e3 e4 e5 e6 =>
   rename_i b o len cap
   subst e1
   obtain ⟨n',hρ,hcapn⟩:=e6
   by_cases hroom:elems.length+xs.length≤cap
   ·have hlive:(H t).live:=by rw [hH]; trivial
    obtain ⟨bc,T,fr,g1,g2,g3,g4⟩:=hW.tail_at hH hρ
    have hmul:(elems.length+xs.length) * ei.size≤cap * ei.size:=Nat.mul_le_mul_right _ hroom
    rw [Nat.add_mul] at hmul
    have hcl:cs.toList.length=xs.length * ei.size:=by rw [Array.length_toList,hcsz]
    have hall:xs.flatten.all AV.one=true:=by
     rw [List.all_flatten]; exact hone
    have hst:=run_storeCells_cells (P:=E.P) b (o+elems.length * ei.size) cs.toList 0 w (fun j hj=>by
      rw [Array.length_toList,hcsz] at hj
      rw [cI g1]
      simp [show o+elems.length * ei.size+j < bc.size by omega])
     (fun j hj=>by
      rw [Array.length_toList,hcsz] at hj
      simp only [World.frozen?,g1]
      have:=g3 (o+elems.length * ei.size+j) (by omega) (by omega)
      simpa using this)
     (qX hcs hall)
    refine ⟨.slice (some ⟨b,o,none⟩) (elems.length+xs.length) cap,_,g,?_,.any1 rfl,Evo.scribble hW hH hρ cs.toList (by omega)⟩
    rw [kF hE h0 h1 hsT hxT he hni hlen ty hfirst hroom]
    simp only [fO,hst,Result.andThen_ok,Nat.add_zero]
   ·obtain ⟨_,_,l3,_,co,l4,l5,_⟩:=mI (P:=E.P) (hW.drew (w.drawn+1)) hs0
    exact grow (el:=elems) (co:=co) (base:=some ⟨b,o,none⟩) (sCap:=cap) (Nat.le_refl _) (by simp only [Builtin.firstCells]; exact l4) hroom (by omega)
structure SrcIs (P:Program) (g:Gh) (w:World) (sz:Nat) (xs:List (List AV)) (vx:Value):Prop where
 len:∀ d,(Builtin.lenOf vx).run P { w with drawn:=d }=.ok xs.length { w with drawn:=d }
 rows:∀ (i:Nat) (cs:List AV),xs[i]?=some cs→cs.length=sz
 cells:∀ d,∃ cs:Array Value,(Builtin.firstCells sz xs.length vx).run P { w with drawn:=d }=.ok cs { w with drawn:=d }∧LRel g xs.flatten cs.toList
theorem SrcIs.of {P:Program} {g:Gh} {H:Nat→Ent} {w:World} (hW:WRel g H w) {ei xi:TI} {x:AV} {vx:Value} (hx:VRel g x vx) {xs:List (List AV)} (h:iU ei xi x=some xs):SrcIs P g w ei.size xs vx :=
 ⟨fun d=>(rF (P:=P) (hW.drew d) hx h).1,(rF (P:=P) hW hx h).2.1,fun d=>(rF (P:=P) (hW.drew d) hx h).2.2⟩
theorem aFc {g:Gh} {id off len sz:Nat} {v:Value} (h:VRel g (.bsl id off len sz) v):VRel g (.wsl id off len len false sz) v:=by
 cases h with
 | bsl e h1 h2=>exact .wsl e (Nat.le_refl _) h1 h2
 | bsl0=>exact .wsl0 (fun h=>by cases h)
theorem pF {g:Gh} {id off len c sz:Nat} {nn:Bool} {v:Value} (h:VRel g (.wsl id off len c nn sz) v):VRel g (.bsl id off len sz) v:=by
 cases h with
 | wsl e h1 h2 h3=>exact .bsl e (Nat.le_trans h1 h2) h3
 | wsl0 _=>exact .bsl0
theorem aFd {E:Env} (hE:E.Ok) {g:Gh} {H:Nat→Ent} {w:World} (hW:WRel g H w) {n:Nat} (hn:H n=.unborn) {ats:Array TypeId} {vs vx:Value} {sT xT e:TypeId} {s1 b1 t k c0:Nat} {nn:Bool} {z1:List AV} {xi ei:TI}
  {xs:List (List AV)} {cells:List AV} (h0:ats[0]?=some sT) (h1:ats[1]?=some xT) (hsT:E.ty sT=some ⟨.slice e,s1,b1,z1⟩) (hxT:E.ty xT=some xi) (he:E.ty e=some ei) (hby:¬ (ei.bytes=0∨2 ^ 20 < ei.bytes))
  (hs:VRel g (.wsl t 0 k c0 nn ei.size) vs) (hni:∀ k,xi.d≠.int k) (hS:SrcIs E.P g w ei.size xs vx) (hH:H t=.gbx cells) (hk:k * ei.size≤cells.length) (hone:(xs.all fun c=>c.all AV.one)=true) (hob:(k+xs.length) * ei.bytes≤2 ^ 46) (ty:TypeId) :
  ∃ v w' g',(Builtin.append_ ats ty #[vs,vx]).run E.P w=.ok v w'∧VRel g' (.wsl n 0 (k+xs.length) (max c0 (k+xs.length)) (nn || decide (0 < k+xs.length)) ei.size) v∧Evo g H w g' (upd (upd H t .dead) n (.gbx (cells.take (k * ei.size)++xs.flatten))) w':=by
 have hF:=hE e _ he
 have hby0:ei.bytes≠0:=fun e=>hby (.inl e)
 have hby1:ei.bytes≤2 ^ 20:=by omega
 obtain ⟨info,hinfo,hisz,hib,z,hz,hzr⟩:=hF.info
 have hzsz:z.cells.size=ei.size:=by have:=(hzr g).1; rw [hF.zl] at this; simpa using this.symm
 have hlen:(Builtin.lenOf vx).run E.P w=.ok xs.length w:=hS.len w.drawn
 have hxsz:=hS.rows
 obtain ⟨cs,hfirst,hcs⟩:∃ cs:Array Value,(Builtin.firstCells ei.size xs.length vx).run E.P w=.ok cs w∧LRel g xs.flatten cs.toList:=hS.cells w.drawn
 obtain ⟨cs1,hfirst1,hcs1⟩:=hS.cells (w.drawn+1)
 have hcsz:cs.size=xs.length * ei.size:=by have:=hcs.1; rw [dX xs hxsz] at this; simpa using this.symm
 have hcsz1:cs1.size=xs.length * ei.size:=by have:=hcs1.1; rw [dX xs hxsz] at this; simpa using this.symm
 have hrest:∀ m,(Builtin.zeroCells z.cells m).size=m * ei.size:=fun m=>by rw [mJ,hzsz]
 have htn:t≠n:=fun e=>by subst e; rw [hH] at hn; cases hn
 have hupd:∀ {c:List AV},upd (upd H n (.gbx c)) t .dead=upd (upd H t .dead) n (.gbx c):=fun {c}=>by
  funext j
  by_cases hj:j=n
  ·subst hj; rw [aR,aJ _ _ (Ne.symm htn),aR]
  ·rw [aJ _ _ hj]
   by_cases hj':j=t
   ·subst hj'; rw [aR,aR]
   ·rw [aJ _ _ hj',aJ _ _ hj,aJ _ _ hj']
 have grow:∀ {co:Array Value} {base:Option Addr} {sCap:Nat},LRel g (cells.take (k * ei.size)) co.toList →
   (Builtin.firstCells ei.size k (.slice base k sCap)).run E.P { w with drawn:=w.drawn+1 }=.ok co { w with drawn:=w.drawn+1 } →
   ¬ k+xs.length≤sCap→sCap≤k+xs.length→c0≤k+xs.length →
   ∃ v w' g',(Builtin.append_ ats ty #[.slice base k sCap,vx]).run E.P w=.ok v w'∧VRel g' (.wsl n 0 (k+xs.length) (max c0 (k+xs.length)) (nn || decide (0 < k+xs.length)) ei.size) v∧Evo g H w g' (upd (upd H t .dead) n (.gbx (cells.take (k * ei.size)++xs.flatten))) w':=by
  intro co base sCap hco hold hroom hcap hc0
  obtain ⟨cap,hc,hrun⟩:=rG hE h0 h1 hsT hxT he hni hlen ty hinfo hib hz hfirst1 hold hroom hcap hby0 hby1 hob
  have hcosz:co.size=k * ei.size:=by have:=hco.1; rw [List.length_take,Nat.min_eq_left hk] at this; simpa using this.symm
  obtain ⟨hρ,hev⟩:=Evo.boxM (hW.drew (w.drawn+1)) hn (cells.take (k * ei.size)++xs.flatten) (co++cs1) (Builtin.zeroCells z.cells (cap - (k+xs.length))) e (by rw [Array.toList_append]; exact hco.append hcs1)
  have hev2:=((Evo.drew hW (w.drawn+1)).trans hev)
  have hev3:=hev2.trans (Evo.forget hev2.rel (upd (upd H n (.gbx (cells.take (k * ei.size)++xs.flatten))) t .dead) fun j=>by
   by_cases hj:j=t
   ·subst hj; right; rw [aR]
   ·left; rw [aJ _ _ hj])
  rw [hupd] at hev3
  refine ⟨_,_,_,hrun,.wsl hρ (Nat.le_max_right _ _) (by rw [Nat.max_eq_right hc0]; exact hc) ?_,hev3⟩
  rw [Array.size_append,Array.size_append,hrest,hcosz,hcsz1,← Nat.add_mul,← Nat.add_mul,Nat.zero_add]
  exact Nat.mul_le_mul_right _ (by omega)
 cases hs with
 | wsl hρ hkc hcc hb =>
  rename_i b lo n' cap
  have hc:=Nat.le_trans hkc hcc
  have hent:=hW.ent t
  rw [hH] at hent
  rcases hent with ⟨e0,_⟩ | ⟨b',n'',bc,T,fr,e1,e2,e3,e4,e5,e6,e7⟩
  ·rw [hρ] at e0; cases e0
  rw [hρ] at e1; cases e1
  rw [Nat.zero_add] at hb
  by_cases hroom:k+xs.length≤cap
  ·have hmul:(k+xs.length) * ei.size≤cap * ei.size:=Nat.mul_le_mul_right _ hroom
   rw [Nat.add_mul] at hmul
   have hall:xs.flatten.all AV.one=true:=by
    rw [List.all_flatten]; exact hone
   have hst:=run_storeCells_cells (P:=E.P) b (k * ei.size) cs.toList 0 w (fun j hj=>by
     rw [Array.length_toList,hcsz] at hj
     rw [cI e2]
     simp [show k * ei.size+j < bc.size by omega])
    (fun j hj=>by
     rw [Array.length_toList,hcsz] at hj
     simp only [World.frozen?,e2]
     have:=e4 (k * ei.size+j) (by omega) (by omega)
     simpa using this)
    (qX hcs hall)
   have hxl:xs.flatten.length=xs.length * ei.size:=dX xs hxsz
   obtain ⟨hρ2,hev⟩:=Evo.moveM hW (id:=t) (id2:=n) (b:=b) (n:=n') (off:=k * ei.size) (cells':=cells.take (k * ei.size)++xs.flatten) (vs:=cs.toList) hH hn hρ ⟨xs.flatten,hcs,rfl,hk,by omega⟩
   refine ⟨.slice (some ⟨b,0,none⟩) (k+xs.length) cap,_,_,?_,.wsl hρ2 (Nat.le_max_right _ _) (Nat.max_le.2 ⟨hcc,hroom⟩) (by omega),hev⟩
   rw [kF hE h0 h1 hsT hxT he hni hlen ty hfirst hroom]
   simp only [fO,hst,Result.andThen_ok,Nat.add_zero,Nat.zero_add]
  ·have hload:(Builtin.firstCells ei.size k (.slice (some ⟨b,0,none⟩) k cap)).run E.P { w with drawn:=w.drawn+1 }=.ok (((List.range (k * ei.size)).map fun j=>(w.cell? ⟨b,0+j,none⟩).getD undef).toArray) { w with drawn:=w.drawn+1 }:=by
    simp only [Builtin.firstCells]
    refine run_loadCells _ _ _ _ fun j hj=>?_
    rw [fO]
    obtain ⟨c,h1,_⟩:=e6 j _ (List.getElem?_eq_getElem (show j < cells.length by omega))
    show w.cell? _=_
    rw [cI e2,Nat.zero_add,h1]; rfl
   refine grow (co:=((List.range (k * ei.size)).map fun j=>(w.cell? ⟨b,0+j,none⟩).getD undef).toArray) ⟨by simp; omega,fun j y c hy hc=>?_⟩ hload hroom (by omega) (by omega)
   rw [List.getElem?_take] at hy
   split at hy
   ·rename_i hlt
    obtain ⟨c',h1,h2⟩:=e6 j y hy
    simp only [List.getElem?_map,List.getElem?_range hlt,Option.map_some,Option.some.injEq] at hc
    rw [cI e2,Nat.zero_add,h1] at hc
    simp only [Option.getD_some] at hc
    subst hc; exact h2
   ·cases hy
 | wsl0 ha =>
  rename_i a
  cases xs with
  | nil =>
   have hc0:cs=#[]:=Array.eq_empty_of_size_eq_zero (by simpa using hcsz)
   subst hc0
   refine ⟨.slice a 0 0,w,g,?_,.wsl0 (fun h=>ha (by simpa using h)),?_⟩
   ·rw [kF hE h0 h1 hsT hxT he hni hlen ty hfirst (by simp)]
    cases a<;>simp [storeCells]
   ·refine Evo.noneM hW _ fun j=>?_
    by_cases hj:j=n
    ·subst hj; right; right; exact ⟨by rw [aR]; simp,hW.fresh _ hn⟩
    ·rw [aJ _ _ hj]
     by_cases hj':j=t
     ·subst hj'; right; left; rw [aR]
     ·left; rw [aJ _ _ hj']
  | cons y ys =>
   exact grow (co:=#[]) (base:=a) (sCap:=0) (by simp; exact .nil) (by cases a<;>simp [Builtin.firstCells,loadCells,loadCellsFrom]) (by simp) (by simp) (Nat.zero_le _)
theorem aQl {E:Env} (hE:E.Ok) {g:Gh} {H:Nat→Ent} {w:World} (hW:WRel g H w) {n:Nat} (hn:H n=.unborn) {ats:Array TypeId} {x:AV} {vs vx:Value} {sT xT e:TypeId} {s1 b1 t k:Nat} {z1:List AV} {xi ei:TI}
  {xs:List (List AV)} {cells:List AV} (h0:ats[0]?=some sT) (h1:ats[1]?=some xT) (hsT:E.ty sT=some ⟨.slice e,s1,b1,z1⟩) (hxT:E.ty xT=some xi) (he:E.ty e=some ei) (hby:¬ (ei.bytes=0∨2 ^ 20 < ei.bytes))
  (hs:VRel g (.bsl t 0 k ei.size) vs) (hx:VRel g x vx) (hsrc:iU ei xi x=some xs) (hH:H t=.gbx cells) (hk:k * ei.size≤cells.length) (hone:(xs.all fun c=>c.all AV.one)=true) (hob:(k+xs.length) * ei.bytes≤2 ^ 46) (ty:TypeId) :
  ∃ v w' g',(Builtin.append_ ats ty #[vs,vx]).run E.P w=.ok v w'∧VRel g' (.bsl n 0 (k+xs.length) ei.size) v∧Evo g H w g' (upd (upd H t .dead) n (.gbx (cells.take (k * ei.size)++xs.flatten))) w':=by
 obtain ⟨v,w',g',k1,k2,k3⟩:=aFd hE hW hn h0 h1 hsT hxT he hby (aFc hs) (xU hsrc) (.of hW hx hsrc) hH hk hone hob ty
 exact ⟨v,w',g',k1,pF k2,k3⟩
theorem aFe {E:Env} (hE:E.Ok) {g:Gh} {H:Nat→Ent} {w:World} (hW:WRel g H w) {n:Nat} (hn:H n=.unborn) {ats:Array TypeId} {a:Option Addr} {vx:Value} {sT xT e:TypeId} {s1 b1:Nat} {z1:List AV} {xi ei:TI}
  {xs:List (List AV)} (h0:ats[0]?=some sT) (h1:ats[1]?=some xT) (hsT:E.ty sT=some ⟨.slice e,s1,b1,z1⟩) (hxT:E.ty xT=some xi) (he:E.ty e=some ei) (hby:¬ (ei.bytes=0∨2 ^ 20 < ei.bytes))
  (hni:∀ k,xi.d≠.int k) (hS:SrcIs E.P g w ei.size xs vx) (hob:xs.length * ei.bytes≤2 ^ 46) (ty:TypeId) :
  ∃ v w' g',(Builtin.append_ ats ty #[.slice a 0 0,vx]).run E.P w=.ok v w'∧VRel g' (.wsl n 0 xs.length xs.length (decide (0 < xs.length)) ei.size) v∧Evo g H w g' (upd H n (.gbx xs.flatten)) w':=by
 have hF:=hE e _ he
 have hby0:ei.bytes≠0:=fun e=>hby (.inl e)
 have hby1:ei.bytes≤2 ^ 20:=by omega
 obtain ⟨info,hinfo,hisz,hib,z,hz,hzr⟩:=hF.info
 have hzsz:z.cells.size=ei.size:=by have:=(hzr g).1; rw [hF.zl] at this; simpa using this.symm
 have hlen:(Builtin.lenOf vx).run E.P w=.ok xs.length w:=hS.len w.drawn
 have hxsz:=hS.rows
 obtain ⟨cs,hfirst,hcs⟩:∃ cs:Array Value,(Builtin.firstCells ei.size xs.length vx).run E.P w=.ok cs w∧LRel g xs.flatten cs.toList:=hS.cells w.drawn
 obtain ⟨cs1,hfirst1,hcs1⟩:=hS.cells (w.drawn+1)
 have hcsz:cs.size=xs.length * ei.size:=by have:=hcs.1; rw [dX xs hxsz] at this; simpa using this.symm
 have hcsz1:cs1.size=xs.length * ei.size:=by have:=hcs1.1; rw [dX xs hxsz] at this; simpa using this.symm
 have hrest:∀ m,(Builtin.zeroCells z.cells m).size=m * ei.size:=fun m=>by rw [mJ,hzsz]
 cases xs with
 | nil =>
  have hc0:cs=#[]:=Array.eq_empty_of_size_eq_zero (by simpa using hcsz)
  subst hc0
  refine ⟨.slice a 0 0,w,g,?_,.wsl0 (fun h=>by simp at h),?_⟩
  ·rw [kF hE h0 h1 hsT hxT he hni hlen ty hfirst (by simp)]
   cases a<;>simp [storeCells]
  ·refine Evo.noneM hW _ fun j=>?_
   by_cases hj:j=n
   ·subst hj; right; right; exact ⟨by rw [aR]; simp,hW.fresh _ hn⟩
   ·left; rw [aJ _ _ hj]
 | cons y ys =>
  obtain ⟨cap,hc,hrun⟩:=rG (base:=a) (sLen:=0) (sCap:=0) (co:=#[]) hE h0 h1 hsT hxT he hni hlen ty hinfo hib hz hfirst1 (by cases a<;>simp [Builtin.firstCells,loadCells,loadCellsFrom]) (by simp) (by simp) hby0 hby1 (by simpa using hob)
  obtain ⟨hρ,hev⟩:=Evo.boxM (hW.drew (w.drawn+1)) hn (y :: ys).flatten (#[]++cs1) (Builtin.zeroCells z.cells (cap - (0+(y :: ys).length))) e (by simpa using hcs1)
  refine ⟨_,_,_,hrun,?_,(Evo.drew hW (w.drawn+1)).trans hev⟩
  have hc':(y :: ys).length≤cap:=by omega
  rw [show 0+(y :: ys).length=(y :: ys).length from Nat.zero_add _] at hρ ⊢
  refine .wsl hρ (Nat.le_refl _) hc' ?_
  rw [Array.size_append,Array.size_append,hrest,hcsz1]
  simp only [Array.size_empty,Nat.zero_add]
  rw [← Nat.add_mul]
  exact Nat.mul_le_mul_right _ (by omega)
theorem aLN {E:Env} (hE:E.Ok) {g:Gh} {H:Nat→Ent} {w:World} (hW:WRel g H w) {n:Nat} (hn:H n=.unborn) {ats:Array TypeId} {x:AV} {a:Option Addr} {vx:Value} {sT xT e:TypeId} {s1 b1:Nat} {z1:List AV} {xi ei:TI}
  {xs:List (List AV)} (h0:ats[0]?=some sT) (h1:ats[1]?=some xT) (hsT:E.ty sT=some ⟨.slice e,s1,b1,z1⟩) (hxT:E.ty xT=some xi) (he:E.ty e=some ei) (hby:¬ (ei.bytes=0∨2 ^ 20 < ei.bytes))
  (hx:VRel g x vx) (hsrc:iU ei xi x=some xs) (hob:xs.length * ei.bytes≤2 ^ 46) (ty:TypeId) :
  ∃ v w' g',(Builtin.append_ ats ty #[.slice a 0 0,vx]).run E.P w=.ok v w'∧VRel g' (.bsl n 0 xs.length ei.size) v∧Evo g H w g' (upd H n (.gbx xs.flatten)) w':=by
 obtain ⟨v,w',g',k1,k2,k3⟩:=aFe hE hW hn h0 h1 hsT hxT he hby (a:=a) (xU hsrc) (.of hW hx hsrc) hob ty
 exact ⟨v,w',g',k1,pF k2,k3⟩
theorem aFf {E:Env} (hE:E.Ok) {g:Gh} {H:Nat→Ent} {w:World} (hW:WRel g H w) {n:Nat} (hn:H n=.unborn) {ats:Array TypeId} {a:Option Addr} (ha:a=none∨∃ b o,a=some ⟨b,o,none⟩) {vx:Value} {sT xT e:TypeId} {s1 b1:Nat} {z1:List AV} {xi ei:TI}
  {xs:List (List AV)} (h0:ats[0]?=some sT) (h1:ats[1]?=some xT) (hsT:E.ty sT=some ⟨.slice e,s1,b1,z1⟩) (hxT:E.ty xT=some xi) (he:E.ty e=some ei) (hby:¬ (ei.bytes=0∨2 ^ 20 < ei.bytes))
  (hni:∀ k,xi.d≠.int k) (hS:SrcIs E.P g w ei.size xs vx) (hob:xs.length * ei.bytes≤2 ^ 46) (ty:TypeId) :
  ∃ v w' g',(Builtin.append_ ats ty #[.slice a 0 0,vx]).run E.P w=.ok v w'∧VRel g' (.gsl ei.size xs n) v∧Evo g H w g' (upd H n .tail) w':=by
 have hF:=hE e _ he
 have hby0:ei.bytes≠0:=fun e=>hby (.inl e)
 have hby1:ei.bytes≤2 ^ 20:=by omega
 obtain ⟨info,hinfo,hisz,hib,z,hz,hzr⟩:=hF.info
 have hzsz:z.cells.size=ei.size:=by have:=(hzr g).1; rw [hF.zl] at this; simpa using this.symm
 have hlen:(Builtin.lenOf vx).run E.P w=.ok xs.length w:=hS.len w.drawn
 have hxsz:=hS.rows
 obtain ⟨cs,hfirst,hcs⟩:∃ cs:Array Value,(Builtin.firstCells ei.size xs.length vx).run E.P w=.ok cs w∧LRel g xs.flatten cs.toList:=hS.cells w.drawn
 obtain ⟨cs1,hfirst1,hcs1⟩:=hS.cells (w.drawn+1)
 have hcsz:cs.size=xs.length * ei.size:=by have:=hcs.1; rw [dX xs hxsz] at this; simpa using this.symm
 have hcsz1:cs1.size=xs.length * ei.size:=by have:=hcs1.1; rw [dX xs hxsz] at this; simpa using this.symm
 cases xs with
 | nil =>
  have hc0:cs=#[]:=Array.eq_empty_of_size_eq_zero (by simpa using hcsz)
  subst hc0
  have hun:Evo g H w g (upd H n .tail) w:=Evo.forget' hW _ fun j=>by
   by_cases hj:j=n
   ·subst hj; right; right; exact ⟨by rw [aR],hW.fresh _ hn⟩
   ·left; rw [aJ _ _ hj]
  refine ⟨.slice a 0 0,w,g,?_,?_,hun⟩
  ·rw [kF hE h0 h1 hsT hxT he hni hlen ty hfirst (by simp)]
   cases a<;>simp [storeCells]
  ·rcases ha with rfl | ⟨b,o,rfl⟩
   ·exact .gslN
   ·exact .gslF (.sl (fun _ _=>undef) rfl (Nat.le_refl _) (by simp) (by simp) (by simp) rfl)
 | cons y ys =>
  obtain ⟨cap,hc,hrun⟩:=rG (base:=a) (sLen:=0) (sCap:=0) (co:=#[]) hE h0 h1 hsT hxT he hni hlen ty hinfo hib hz hfirst1 (by cases a<;>simp [Builtin.firstCells,loadCells,loadCellsFrom]) (by simp) (by simp) hby0 hby1 (by simpa using hob)
  obtain ⟨g',k1,k2⟩:=pE (E:=E) hW hn hxsz cs1 (Builtin.zeroCells z.cells (cap - (0+(y :: ys).length))) hcs1 e cap (by omega) (by
   rw [Array.size_append,mJ,hzsz,hcsz1,← Nat.add_mul]; congr 1; omega) (w.drawn+1)
  refine ⟨_,_,g',hrun,.gslT ?_,?_⟩
  ·rw [Nat.zero_add]; exact k1
  ·rw [Array.empty_append]; exact k2
theorem aLO {E:Env} (hE:E.Ok) {g:Gh} {H:Nat→Ent} {w:World} (hW:WRel g H w) {n:Nat} (hn:H n=.unborn) {ats:Array TypeId} {vs vx:Value} {sT xT e:TypeId} {s1 b1:Nat} {z1:List AV} {xi ei:TI}
  {xs elems:List (List AV)} (h0:ats[0]?=some sT) (h1:ats[1]?=some xT) (hsT:E.ty sT=some ⟨.slice e,s1,b1,z1⟩) (hxT:E.ty xT=some xi) (he:E.ty e=some ei) (hby:¬ (ei.bytes=0∨2 ^ 20 < ei.bytes))
  (hni:∀ k,xi.d≠.int k) (hS:SrcIs E.P g w ei.size xs vx)
  (hs:VRel g (.sl ei.size elems .full) vs) (hob:(elems.length+xs.length) * ei.bytes≤2 ^ 46) (ty:TypeId) :
  ∃ v w' g',(Builtin.append_ ats ty #[vs,vx]).run E.P w=.ok v w'∧VRel g' (.gsl ei.size (elems++xs) n) v∧Evo g H w g' (upd H n .tail) w':=by
 have hF:=hE e _ he
 have hby0:ei.bytes≠0:=fun e=>hby (.inl e)
 have hby1:ei.bytes≤2 ^ 20:=by omega
 obtain ⟨info,hinfo,hisz,hib,z,hz,hzr⟩:=hF.info
 have hzsz:z.cells.size=ei.size:=by have:=(hzr g).1; rw [hF.zl] at this; simpa using this.symm
 have hlen:(Builtin.lenOf vx).run E.P w=.ok xs.length w:=hS.len w.drawn
 have hxsz:=hS.rows
 obtain ⟨cs,hfirst,hcs⟩:∃ cs:Array Value,(Builtin.firstCells ei.size xs.length vx).run E.P w=.ok cs w∧LRel g xs.flatten cs.toList:=hS.cells w.drawn
 obtain ⟨cs1,hfirst1,hcs1⟩:=hS.cells (w.drawn+1)
 have hcsz:cs.size=xs.length * ei.size:=by have:=hcs.1; rw [dX xs hxsz] at this; simpa using this.symm
 have hcsz1:cs1.size=xs.length * ei.size:=by have:=hcs1.1; rw [dX xs hxsz] at this; simpa using this.symm
 have hrest:∀ m,(Builtin.zeroCells z.cells m).size=m * ei.size:=fun m=>by rw [mJ,hzsz]
 have both:∀ {elems:List (List AV)} {co:Array Value},(∀ (i:Nat) (cs:List AV),elems[i]?=some cs→cs.length=ei.size)→LRel g elems.flatten co.toList →
   (∀ (i:Nat) (cs:List AV),(elems++xs)[i]?=some cs→cs.length=ei.size)∧LRel g (elems++xs).flatten (co++cs1).toList:=fun hes hco=>by
  refine ⟨fun i c h=>?_,?_⟩
  ·rw [List.getElem?_append] at h
   split at h
   ·exact hes _ _ h
   ·exact hxsz _ _ h
  ·rw [List.flatten_append,Array.toList_append]; exact hco.append hcs1
 have grow:∀ {elems:List (List AV)} {co:Array Value} {base:Option Addr} {sCap:Nat},(∀ (i:Nat) (cs:List AV),elems[i]?=some cs→cs.length=ei.size)→LRel g elems.flatten co.toList →
   (Builtin.firstCells ei.size elems.length (.slice base elems.length sCap)).run E.P { w with drawn:=w.drawn+1 }=.ok co { w with drawn:=w.drawn+1 } →
   ¬ elems.length+xs.length≤sCap→sCap≤elems.length+xs.length→(elems.length+xs.length) * ei.bytes≤2 ^ 46 →
   ∃ v w' g',(Builtin.append_ ats ty #[.slice base elems.length sCap,vx]).run E.P w=.ok v w'∧VRel g' (.sl ei.size (elems++xs) (.tail n)) v∧Evo g H w g' (upd H n .tail) w':=by
  intro elems co base sCap hes hco hold hroom hcap hbig
  obtain ⟨cap,hc,hrun⟩:=rG hE h0 h1 hsT hxT he hni hlen ty hinfo hib hz hfirst1 hold hroom hcap hby0 hby1 hbig
  obtain ⟨hes2,hr2⟩:=both hes hco
  have hcosz:co.size=elems.length * ei.size:=by have:=hco.1; rw [dX elems hes] at this; simpa using this.symm
  obtain ⟨g',k1,k2⟩:=pE (E:=E) hW hn hes2 (co++cs1) (Builtin.zeroCells z.cells (cap - (elems.length+xs.length))) hr2 e cap (by simpa using hc)
   (by rw [Array.size_append,Array.size_append,hrest,hcosz,hcsz1,← Nat.add_mul,← Nat.add_mul]; congr 1; omega) (w.drawn+1)
  exact ⟨_,_,g',hrun,by simpa using k1,k2⟩
 have hs0:=hs
 cases hs with
 | sl c e1 e2 e3 e4 e5 e6 =>
  rename_i b o len cap
  have hcap:cap=len:=e6
  subst hcap
  subst e1
  cases xs with
  | nil =>
   have hc0:cs=#[]:=Array.eq_empty_of_size_eq_zero (by simpa using hcsz)
   subst hc0
   refine ⟨.slice (some ⟨b,o,none⟩) elems.length elems.length,w,g,?_,.gslF (by simpa using hs0),?_⟩
   ·rw [kF (sLen:=elems.length) (sCap:=elems.length) (base:=some ⟨b,o,none⟩) hE h0 h1 hsT hxT he hni hlen ty hfirst (by simp)]
    simp [storeCells]
   ·refine Evo.forget' hW _ fun k=>?_
    by_cases hk:k=n
    ·subst hk; exact .inr (.inr ⟨aR _ _ _,hW.fresh _ hn⟩)
    ·exact .inl (aJ _ _ hk)
  | cons y ys =>
   obtain ⟨_,_,l3,_,co,l4,l5,_⟩:=mI (P:=E.P) (hW.drew (w.drawn+1)) hs0
   obtain ⟨v,w',g',k1,k2,k3⟩:=grow (elems:=elems) (co:=co) (base:=some ⟨b,o,none⟩) (sCap:=elems.length) l3 l5 (by simp only [Builtin.firstCells]; exact l4) (by simp) (by simp) hob
   exact ⟨v,w',g',k1,.gslT k2,k3⟩
theorem aQm {E:Env} (hE:E.Ok) {g:Gh} {H:Nat→Ent} {w:World} (hW:WRel g H w) {n:Nat} (hn:H n=.unborn) {ats:Array TypeId} {vs vx:Value} {sT xT e:TypeId} {s1 b1:Nat} {z1:List AV} {xi ei:TI}
  {xs elems:List (List AV)} (h0:ats[0]?=some sT) (h1:ats[1]?=some xT) (hsT:E.ty sT=some ⟨.slice e,s1,b1,z1⟩) (hxT:E.ty xT=some xi) (he:E.ty e=some ei) (hby:¬ (ei.bytes=0∨2 ^ 20 < ei.bytes))
  (hni:∀ k,xi.d≠.int k) (hS:SrcIs E.P g w ei.size xs vx) {t:Nat} (hH:H t=.tail) (hone:(xs.all fun c=>c.all AV.one)=true)
  (hs:VRel g (.gsl ei.size elems t) vs) (hob:(elems.length+xs.length) * ei.bytes≤2 ^ 46) (ty:TypeId) :
  ∃ v w' g',(Builtin.append_ ats ty #[vs,vx]).run E.P w=.ok v w'∧VRel g' (.gsl ei.size (elems++xs) n) v∧Evo g H w g' (upd (upd H t .dead) n .tail) w':=by
 have htn:t≠n:=fun e=>by subst e; rw [hH] at hn; cases hn
 have full:∀ {g':Gh} {w':World},Evo g H w g' (upd H n .tail) w'→Evo g H w g' (upd (upd H t .dead) n .tail) w':=fun {g' w'} hev=>by
  refine hev.trans (Evo.forget hev.rel _ fun k=>?_)
  by_cases hk:k=n
  ·subst hk; left; rw [aR,aR]
  ·rw [aJ _ _ hk,aJ _ _ hk]
   by_cases hk2:k=t
   ·subst hk2; right; rw [aR]
   ·left; rw [aJ _ _ hk2]
 cases hs with
 | gslN =>
  obtain ⟨v,w',g',k1,k2,k3⟩:=aFf hE hW hn (a:=none) (.inl rfl) h0 h1 hsT hxT he hby hni hS (by simpa using hob) ty
  exact ⟨v,w',g',k1,k2,full k3⟩
 | gslF hs =>
  obtain ⟨v,w',g',k1,k2,k3⟩:=aLO hE hW hn h0 h1 hsT hxT he hby hni hS hs hob ty
  exact ⟨v,w',g',k1,k2,full k3⟩
 | gslT hs =>
  have hF:=hE e _ he
  have hby0:ei.bytes≠0:=fun e=>hby (.inl e)
  have hby1:ei.bytes≤2 ^ 20:=by omega
  obtain ⟨info,hinfo,hisz,hib,z,hz,hzr⟩:=hF.info
  have hzsz:z.cells.size=ei.size:=by have:=(hzr g).1; rw [hF.zl] at this; simpa using this.symm
  have hlen:(Builtin.lenOf vx).run E.P w=.ok xs.length w:=hS.len w.drawn
  have hxsz:=hS.rows
  obtain ⟨cs,hfirst,hcs⟩:∃ cs:Array Value,(Builtin.firstCells ei.size xs.length vx).run E.P w=.ok cs w∧LRel g xs.flatten cs.toList:=hS.cells w.drawn
  obtain ⟨cs1,hfirst1,hcs1⟩:=hS.cells (w.drawn+1)
  have hcsz:cs.size=xs.length * ei.size:=by have:=hcs.1; rw [dX xs hxsz] at this; simpa using this.symm
  have hcsz1:cs1.size=xs.length * ei.size:=by have:=hcs1.1; rw [dX xs hxsz] at this; simpa using this.symm
  have hrest:∀ m,(Builtin.zeroCells z.cells m).size=m * ei.size:=fun m=>by rw [mJ,hzsz]
  have both:∀ {elems:List (List AV)} {co:Array Value},(∀ (i:Nat) (cs:List AV),elems[i]?=some cs→cs.length=ei.size)→LRel g elems.flatten co.toList →
    (∀ (i:Nat) (cs:List AV),(elems++xs)[i]?=some cs→cs.length=ei.size)∧LRel g (elems++xs).flatten (co++cs1).toList:=fun hes hco=>by
   refine ⟨fun i c h=>?_,?_⟩
   ·rw [List.getElem?_append] at h
    split at h
    ·exact hes _ _ h
    ·exact hxsz _ _ h
   ·rw [List.flatten_append,Array.toList_append]; exact hco.append hcs1
  have grow:∀ {elems:List (List AV)} {co:Array Value} {base:Option Addr} {sCap:Nat},(∀ (i:Nat) (cs:List AV),elems[i]?=some cs→cs.length=ei.size)→LRel g elems.flatten co.toList →
    (Builtin.firstCells ei.size elems.length (.slice base elems.length sCap)).run E.P { w with drawn:=w.drawn+1 }=.ok co { w with drawn:=w.drawn+1 } →
    ¬ elems.length+xs.length≤sCap→sCap≤elems.length+xs.length→(elems.length+xs.length) * ei.bytes≤2 ^ 46 →
    ∃ v w' g',(Builtin.append_ ats ty #[.slice base elems.length sCap,vx]).run E.P w=.ok v w'∧VRel g' (.sl ei.size (elems++xs) (.tail n)) v∧Evo g H w g' (upd H n .tail) w':=by
   intro elems co base sCap hes hco hold hroom hcap hbig
   obtain ⟨cap,hc,hrun⟩:=rG hE h0 h1 hsT hxT he hni hlen ty hinfo hib hz hfirst1 hold hroom hcap hby0 hby1 hbig
   obtain ⟨hes2,hr2⟩:=both hes hco
   have hcosz:co.size=elems.length * ei.size:=by have:=hco.1; rw [dX elems hes] at this; simpa using this.symm
   obtain ⟨g',k1,k2⟩:=pE (E:=E) hW hn hes2 (co++cs1) (Builtin.zeroCells z.cells (cap - (elems.length+xs.length))) hr2 e cap (by simpa using hc)
    (by rw [Array.size_append,Array.size_append,hrest,hcosz,hcsz1,← Nat.add_mul,← Nat.add_mul]; congr 1; omega) (w.drawn+1)
   exact ⟨_,_,g',hrun,by simpa using k1,k2⟩
  have hs0:=hs
  cases hs with
  | sl c e1 e2 e3 e4 e5 e6 =>
   rename_i b o len cap
   subst e1
   obtain ⟨n',hρ,hcapn⟩:=e6
   by_cases hroom:elems.length+xs.length≤cap
   ·have hlive:(H t).live:=by rw [hH]; trivial
    obtain ⟨bc,T,fr,g1,g2,g3,g4⟩:=hW.tail_at hH hρ
    have hmul:(elems.length+xs.length) * ei.size≤cap * ei.size:=Nat.mul_le_mul_right _ hroom
    rw [Nat.add_mul] at hmul
    have hcl:cs.toList.length=xs.length * ei.size:=by rw [Array.length_toList,hcsz]
    have hext:=Evo.extend hW (id:=t) (id2:=n) (lo:=o+elems.length * ei.size) hH hn hρ cs.toList (by omega)
    obtain ⟨k1,k2,k3⟩:=hext
    have hall:xs.flatten.all AV.one=true:=by
     rw [List.all_flatten]; exact hone
    have hst:=run_storeCells_cells (P:=E.P) b (o+elems.length * ei.size) cs.toList 0 w (fun j hj=>by
      rw [Array.length_toList,hcsz] at hj
      rw [cI g1]
      simp [show o+elems.length * ei.size+j < bc.size by omega])
     (fun j hj=>by
      rw [Array.length_toList,hcsz] at hj
      simp only [World.frozen?,g1]
      have:=g3 (o+elems.length * ei.size+j) (by omega) (by omega)
      simpa using this)
     (qX hcs hall)
    refine ⟨.slice (some ⟨b,o,none⟩) (elems.length+xs.length) cap,_,_,?_,?_,k3⟩
    ·rw [kF hE h0 h1 hsT hxT he hni hlen ty hfirst hroom]
     simp only [fO,hst,Result.andThen_ok,Nat.add_zero]
    ·have hes2:∀ (i:Nat) (cs:List AV),(elems++xs)[i]?=some cs→cs.length=ei.size:=fun i c h=>by
      rw [List.getElem?_append] at h
      split at h
      ·exact e3 _ _ h
      ·exact hxsz _ _ h
     obtain ⟨_,_,_,_,co,_,l5,l6⟩:=mI (P:=E.P) hW hs0
     have hcosz:co.size=elems.length * ei.size:=by have:=l5.1; rw [dX elems e3] at this; simpa using this.symm
     refine .gslT (rD (by simp) (by omega) hes2 (co++cs).toList ?_ (fun k hk=>?_) ⟨n',?_,hcapn⟩)
     ·rw [List.flatten_append,Array.toList_append]
      exact (l5.mono k3.le).append (hcs.mono k3.le)
     ·rw [Array.toList_append, List.getElem?_append]
      split
      ·rename_i hlt
       have hlt':k < co.size:=by simpa using hlt
       have:=l6 k hlt'
       rw [Array.getElem?_toList,← this]
       have hsome:∃ v,co[k]?=some v:=⟨co[k],Array.getElem?_eq_getElem hlt'⟩
       obtain ⟨v,hv⟩:=hsome
       rw [this,hv]
       exact k3.le.I _ _ _ (by rw [this,hv])
      ·rename_i hge
       have hge':co.size≤k:=by simpa using hge
       have hk2:k - co.size < cs.toList.length:=by
        have:k < co.size+cs.size:=by simpa using hk
        simp; omega
       have:=k1 (k - co.size) hk2
       rw [show o+elems.length * ei.size+(k - co.size)=o+k by omega] at this
       rw [this]; simp
     ·rw [k2,hcl,Nat.add_mul,Nat.add_assoc]
   ·obtain ⟨_,_,l3,_,co,l4,l5,_⟩:=mI (P:=E.P) (hW.drew (w.drawn+1)) hs0
    obtain ⟨v,w',g',k1,k2,k3⟩:=grow (elems:=elems) (co:=co) (base:=some ⟨b,o,none⟩) (sCap:=cap) l3 l5 (by simp only [Builtin.firstCells]; exact l4) hroom (by omega) hob
    exact ⟨v,w',g',k1,.gslT k2,full k3⟩
end Go.Ev
