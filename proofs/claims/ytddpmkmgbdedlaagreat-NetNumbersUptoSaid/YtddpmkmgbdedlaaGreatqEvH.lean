/-
The abstract evaluator: CO grown by append,texts and bytes turned into each other.
-/
import Derived.Test.YtddpmkmgbdedlaaGreatqEvG
set_option linter.unusedVariables false
set_option linter.unusedSimpArgs false
namespace Go.Ev
open Go
def Rb (b:UInt8):List AV:=[.v (.int .u8 b.toNat)]
def bytesOf (s:ByteArray):List (List AV):=s.data.toList.map Rb
def uW (ei xi:TI)(x:AV):Option (List (List AV)) :=
 match xi.d,x with
 |.slice _,.sl sz elems _=>if sz=ei.size then some elems else none
 |.slice _,.xA sz elems=>if sz=ei.size then some elems else none
 |.slice _,.VA sz elems=>if sz=ei.size then some elems else none
 |.slice _,.v (.slice none 0 0)=>some []
 |.string,.v (.string s)=>if ei.size=1 then some (bytesOf s) else none
 |_,_=>none
def wT (E:Env)(H:Nat→dD)(n:Nat)(ats:Array TypeId)(s x:AV):Option my :=
 match ats[0]?,ats[1]? with
 |some sT,some xT =>
  match E.ty sT,E.ty xT with
  |some ⟨.slice e,_,_,_⟩,some xi =>
   match E.ty e with
   |some ei =>
    if ei.bytes=0∨2 ^ 20 < ei.bytes then none else
    match uW ei xi x with
    |some xs =>
     match s with
     |.v (.slice none 0 0)=>some { r:=bif xs.isEmpty then s else .sl ei.size xs (.tail n),U:=[(n,.tail)],ob:=xs.length * ei.bytes≤2 ^ 46 }
     |.sl sz elems .full=>if sz=ei.size then some { r:=bif xs.isEmpty then s else .sl sz (elems++xs) (.tail n),U:=[(n,.tail)],ob:=(elems.length+xs.length) * ei.bytes≤2 ^ 46 } else none
     |.sl sz elems (.tail t) =>
      match H t with
      |.tail=>if sz=ei.size∧(xs.all fun c=>c.all AV.one)=true then some { r:=.sl sz (elems++xs) (.tail n),U:=[(t,.dead),(n,.tail)],ob:=(elems.length+xs.length) * ei.bytes≤2 ^ 46 } else none
      |_=>none
     |_=>none
    |none=>none
   |none=>none
  |_,_=>none
 |_,_=>none
theorem F9 (P7:Nat):∀ (r c:Nat),Builtin.growBy P7 r c≤max c (P7+(P7+768) / 4)
 |0,c=>by simp only[Builtin.growBy];omega
 |r+1,c=>by
  simp only[Builtin.growBy]
  split
  ·omega
  ·have:=F9 P7 r (c+(c+768) / 4)
   omega
theorem nextslicecap_le (P7 old:Nat)(h:old≤P7):Builtin.nextslicecap P7 old≤2 * P7+1024:=by
 unfold Builtin.nextslicecap
 split
 ·omega
 ·split
  ·omega
  ·have:=F9 P7 4 old
   omega
theorem CP {P:Program}{g:Gh}{H:Nat→dD}{w:World}(hW:eR g H w){ei xi:TI}{x:AV}{vx:Value}(hx:aF g x vx){xs:List (List AV)}(h:uW ei xi x=some xs) :
  (Builtin.lenOf vx).run P w=.ok xs.length w∧(∀ (i:Nat) (cs:List AV),xs[i]?=some cs→cs.length=ei.size) ∧
  ∃ cs:Array Value,(Builtin.firstCells ei.size xs.length vx).run P w=.ok cs w∧cW g xs.flatten cs.toList:=by
 unfold uW at h
 have TE:∀ {sz:Nat} {elems:List (List AV)} {tok:Tok},aF g (.sl sz elems tok) vx→sz=ei.size → 
   (Builtin.lenOf vx).run P w=.ok elems.length w∧(∀ (i:Nat) (cs:List AV),elems[i]?=some cs→cs.length=ei.size) ∧
   ∃ cs:Array Value,(Builtin.firstCells ei.size elems.length vx).run P w=.ok cs w∧cW g elems.flatten cs.toList:=fun Bw Ch=>by
  have LV:=Bw
  cases Bw with
  |sl c e1 e2 e3 e4 e5 e6 =>
   obtain⟨l1,l2,l3,_,cs,l4,l5,_⟩:=Lg (P:=P) hW LV
   subst Ch;subst l1
   exact⟨by simp[Builtin.lenOf],l3,cs,by simp only[Builtin.firstCells];exact l4,l5⟩
 split at h
 ·split at h
  ·cases h;exact TE hx ‹_›
  ·cases h
 ·split at h
  ·cases h
   cases hx with
   |Jt=>rename_i ad;exact⟨by simp[Builtin.lenOf],by simp,#[],by cases ad<;>simp[Builtin.firstCells,loadCells,loadCellsFrom],.nil⟩
   |xA hx=>exact TE hx ‹_›
  ·cases h
 ·split at h
  ·cases h
   cases hx with
   |VA hx e =>
    cases hx with
    |Jt=>rename_i ad;exact⟨by simp[Builtin.lenOf],by simp,#[],by cases ad<;>simp[Builtin.firstCells,loadCells,loadCellsFrom],.nil⟩
    |xA hx=>exact TE hx ‹_›
  ·cases h
 ·cases h;cases hx
  exact⟨by simp[Builtin.lenOf],by simp,#[],by simp[Builtin.firstCells],.nil⟩
 ·rename_i s _
  split at h
  ·rename_i hs
   cases h;cases hx
   refine⟨by simp[Builtin.lenOf,bytesOf],fun i cs h=>?_,_,by simp only[Builtin.firstCells,Sem.run_pure];rfl,?_⟩
   ·simp[bytesOf]at h
    obtain⟨b,_,rfl⟩:=h
    simp[Rb,hs]
   ·have hfl:(bytesOf s).flatten=(s.data.toList.map fun b=>Value.int .u8 b.toNat).map .v:=by
     simp only[bytesOf]
     induction s.data.toList with
     |nil=>rfl
     |cons b l ih=>simp[Rb,ih]
    have Tr:(((s.extract 0 (bytesOf s).length).data.map fun b=>Value.int .u8 b.toNat)).toList=s.data.toList.map fun b=>Value.int .u8 b.toNat:=by
     simp[bytesOf,ByteArray.data_extract]
    rw[hfl,Tr]
    exact cW.aGr _
  ·cases h
 ·cases h
theorem grown {E:Env}{g:Gh}{H:Nat→dD}{w:World}(hW:eR g H w){id:Nat}(gY:H id=.bX){sz:Nat}{elems:List (List AV)}(hs:∀ (i:Nat) (cs:List AV),elems[i]?=some cs→cs.length=sz)
  (cs rest:Array Value) (hr:cW g elems.flatten cs.toList) (T:TypeId) (cap:Nat) (Kl:elems.length≤cap) (Ch:(cs++rest).size=cap * sz) (nd:Nat) :
  ∃ g',aF g' (.sl sz elems (.tail id)) (.slice (some ⟨w.heap.size,0,none⟩) elems.length cap) ∧
   fC g H w g' (eQ H id .tail) { w with drawn:=nd,heap:=w.heap.push (.cells (cs++rest) T) }:=by
 have hd:=hW.drew nd
 have Tr:cs.size=elems.length * sz:=by
  have:=hr.1
  rw[length_flatten elems hs]at this
  simpa using this.symm
 obtain⟨h1,h2,h3⟩:=fC.RI hd gY (cs++rest) T cs.size (0,0) (by simp) (fun o _ _=>by simp) _ rfl
 refine⟨_,?_,(fC.drew hW nd).trans h3⟩
 refine Gg rfl Kl hs cs.toList (hr.mono h3.le) (fun k hk=>?_) ⟨(cs++rest).size,?_,?_⟩
 ·have jR:k < cs.size:=by simpa using hk
  rw[Nat.zero_add,h1 k jR,Array.getElem?_append_left jR]
  simp
 ·rw[h2,Nat.zero_add,Tr]
 ·rw[Nat.zero_add,Ch];exact Nat.le_refl _
theorem size_zeroCells (zero:Array Value)(n:Nat):(Builtin.zeroCells zero n).size=n * zero.size:=by simp[Builtin.zeroCells]
section
variable {E:Env} (hE:E.Ok) {w:World} {sT xT e:TypeId} {ats:Array TypeId} {s1 b1:Nat} {z1:List AV} {xi ei:TI} {vx:Value} {n:Nat} {base:Option Addr} {sLen sCap:Nat}
 (h0:ats[0]?=some sT) (h1:ats[1]?=some xT) (Gv:E.ty sT=some ⟨.slice e,s1,b1,z1⟩) (Gw:E.ty xT=some xi) (he:E.ty e=some ei) (Wb:∀ k,xi.d≠.int k)
 (hlen:(Builtin.lenOf vx).run E.P w=.ok n w) (ty:TypeId)
include hE h0 h1 Gv Gw he Wb hlen
theorem run_append_room {cs:Array Value}(tW:(Builtin.firstCells ei.size n vx).run E.P w=.ok cs w)(rC:sLen+n≤sCap) :
  (Builtin.append_ ats ty #[.slice base sLen sCap,vx]).run E.P w =
   match base with
   |some a=>((storeCells (a.add (sLen * ei.size)) cs.toList).run E.P w).andThen fun _ w'=>.ok (.slice base (sLen+n) sCap) w'
   |none=>.ok (.slice base (sLen+n) sCap) w:=by
 have hT:=hE _ _ Gv
 have hX:=hE _ _ Gw
 have hF:=hE _ _ he
 simp only[Builtin.append_,h0,h1,List.getElem?_toArray,List.getElem?_cons_zero,List.getElem?_cons_succ,Sem.run_bind,hT.underlying,Result.andThen_ok,hF.sizeOf,hX.underlying,Sem.run_pure]
 simp only[Bool.false_eq_true,if_false,hlen,Result.andThen_ok,if_pos rC,Bool.not_false,if_true,tW,Sem.run_bind]
 cases base<;>simp
theorem run_append_grow {info:TypeInfo}{z:Value}(Bv:E.P.info? e=some info)(Qn:info.bytes=ei.bytes)(G3:info.zero=some z){cs co:Array Value}
  (tW:(Builtin.firstCells ei.size n vx).run E.P { w with drawn:=w.drawn+1 }=.ok cs { w with drawn:=w.drawn+1 })
  (hold:(Builtin.firstCells ei.size sLen (.slice base sLen sCap)).run E.P { w with drawn:=w.drawn+1 }=.ok co { w with drawn:=w.drawn+1 })
  (rC:¬ sLen+n≤sCap) (Kl:sCap≤sLen+n) (Ql:ei.bytes≠0) (hby2:ei.bytes≤2 ^ 20) (OI:(sLen+n) * ei.bytes≤2 ^ 46) :
  ∃ cap,sLen+n≤cap∧(Builtin.append_ ats ty #[.slice base sLen sCap,vx]).run E.P w =
   .ok (.slice (some ⟨w.heap.size,0,none⟩) (sLen+n) cap) { w with drawn:=w.drawn+1,heap:=w.heap.push (.cells (co++cs++Builtin.zeroCells z.cells (cap - (sLen+n))) e) }:=by
 have hT:=hE _ _ Gv
 have hX:=hE _ _ Gw
 have hF:=hE _ _ he
 have aAv:=nextslicecap_le (sLen+n) sCap Kl
 have hmul:Builtin.nextslicecap (sLen+n) sCap * ei.bytes≤(2 * (sLen+n)+1024) * ei.bytes:=Nat.mul_le_mul_right _ aAv
 have aI1:(2 * (sLen+n)+1024) * ei.bytes=2 * ((sLen+n) * ei.bytes)+1024 * ei.bytes:=by rw[Nat.add_mul,Nat.mul_assoc]
 have NQ:¬ Builtin.nextslicecap (sLen+n) sCap * ei.bytes > 2 ^ 48:=by
  generalize Builtin.nextslicecap (sLen+n) sCap * ei.bytes=q at *
  generalize (sLen+n) * ei.bytes=q2 at *
  omega
 refine⟨(sLen+n)+w.tape w.drawn (.appendCap (sLen+n) sCap e) % (2 ^ 63 - (sLen+n)),Nat.le_add_right _ _,?_⟩
 simp only[Builtin.append_,h0,h1,List.getElem?_toArray,List.getElem?_cons_zero,List.getElem?_cons_succ,Sem.run_bind,hT.underlying,Result.andThen_ok,hF.sizeOf,hX.underlying,Sem.run_pure]
 simp only[Bool.false_eq_true,if_false,hlen,Result.andThen_ok,if_neg rC,Bool.not_false,if_true,Sem.run_bind,typeInfo,run_program,Bv,Sem.run_pure,Qn,Ql,false_or,and_false,NQ,
  run_choose,Question.forced,Question.cut,run_askRoom,hold,tW,zeroValue,G3,newRow,run_newObj,pure_bind]
end
theorem yV {ei xi:TI}{x:AV}{xs:List (List AV)}(h:uW ei xi x=some xs):∀ k,xi.d≠.int k:=by
 intro k e
 unfold uW at h
 rw[e]at h
 simp at h
theorem Fa {E:Env}(hE:E.Ok){g:Gh}{H:Nat→dD}{w:World}(hW:eR g H w){n:Nat}(hn:H n=.bX){ats:Array TypeId}{s x:AV}{vs vx:Value}(hs:aF g s vs)(hx:aF g x vx)
  {res:my} (h:wT E H n ats s x=some res) (jM:res.ob) (ty:TypeId) :
  ∃ v w' g',(Builtin.append_ ats ty #[vs,vx]).run E.P w=.ok v w'∧aF g' res.r v∧fC g H w g' (app H res.U) w':=by
 unfold wT at h
 split at h
 ·rename_i sT xT h0 h1
  split at h
  ·rename_i e _ _ _ xi Gv Gw
   split at h
   ·rename_i ei he
    have hF:=hE e _ he
    split at h
    ·cases h
    ·rename_i Ql
     have OJ:ei.bytes≠0:=fun e=>Ql (.inl e)
     have OK:ei.bytes≤2 ^ 20:=by omega
     split at h
     ·rename_i xs Il
      have Wb:=yV Il
      obtain⟨info,Bv,RN,Qn,z,hz,OP⟩:=hF.info
      have Ty:z.cells.size=ei.size:=by have:=(OP g).1;rw[hF.zl]at this;simpa using this.symm
      obtain⟨hlen,Ln,cs,tW,Tr⟩:=CP (P:=E.P) hW hx Il
      obtain⟨_,_,TZ,Ct,DQ⟩:=CP (P:=E.P) (hW.drew (w.drawn+1)) hx Il
      have Rr:cs.size=xs.length * ei.size:=by have:=Tr.1;rw[length_flatten xs Ln]at this;simpa using this.symm
      have FI:TZ.size=xs.length * ei.size:=by have:=DQ.1;rw[length_flatten xs Ln]at this;simpa using this.symm
      have ON:∀ m,(Builtin.zeroCells z.cells m).size=m * ei.size:=fun m=>by rw[size_zeroCells,Ty]
      have both:∀ {elems:List (List AV)} {co:Array Value},(∀ (i:Nat) (cs:List AV),elems[i]?=some cs→cs.length=ei.size)→cW g elems.flatten co.toList →
        (∀ (i:Nat) (cs:List AV),(elems++xs)[i]?=some cs→cs.length=ei.size)∧cW g (elems++xs).flatten (co++TZ).toList:=fun fa N5=>by
       refine⟨fun i c h=>?_,?_⟩
       ·rw[List.getElem?_append]at h
        split at h
        ·exact fa _ _ h
        ·exact Ln _ _ h
       ·rw[List.flatten_append,Array.toList_append];exact N5.append DQ
      have grow:∀ {elems:List (List AV)} {co:Array Value} {base:Option Addr} {sCap:Nat},(∀ (i:Nat) (cs:List AV),elems[i]?=some cs→cs.length=ei.size)→cW g elems.flatten co.toList →
        (Builtin.firstCells ei.size elems.length (.slice base elems.length sCap)).run E.P { w with drawn:=w.drawn+1 }=.ok co { w with drawn:=w.drawn+1 } →
        ¬ elems.length+xs.length≤sCap→sCap≤elems.length+xs.length→(elems.length+xs.length) * ei.bytes≤2 ^ 46 →
        ∃ v w' g',(Builtin.append_ ats ty #[.slice base elems.length sCap,vx]).run E.P w=.ok v w'∧aF g' (.sl ei.size (elems++xs) (.tail n)) v∧fC g H w g' (eQ H n .tail) w':=by
       intro elems co base sCap fa N5 hold rC Kl OI
       obtain⟨cap,hc,Ms⟩:=run_append_grow hE h0 h1 Gv Gw he Wb hlen ty Bv Qn hz Ct hold rC Kl OJ OK OI
       obtain⟨N6,hr2⟩:=both fa N5
       have OL:co.size=elems.length * ei.size:=by have:=N5.1;rw[length_flatten elems fa]at this;simpa using this.symm
       obtain⟨g',k1,k2⟩:=grown (E:=E) hW hn N6 (co++TZ) (Builtin.zeroCells z.cells (cap - (elems.length+xs.length))) hr2 e cap (by simpa using hc)
        (by rw[Array.size_append,Array.size_append,ON,OL,FI,← Nat.add_mul,← Nat.add_mul];congr 1;omega) (w.drawn+1)
       exact⟨_,_,g',Ms,by simpa using k1,k2⟩
      split at h
      ·cases h
       cases hs
       cases xs with
       |nil =>
        refine⟨_,_,g,run_append_room hE h0 h1 Gv Gw he Wb hlen ty tW (Nat.le_refl _),.v _,?_⟩
        simp only[app]
        refine fC.XE hW _ fun k=>?_
        by_cases hk:k=n
        ·subst hk;exact .inr (.inr ⟨aP _ _ _,hW.fresh _ hn⟩)
        ·exact .inl (aM _ _ hk)
       |cons y ys =>
        obtain⟨v,w',g',k1,k2,k3⟩:=grow (elems:=[]) (co:=#[]) (base:=none) (sCap:=0) (by simp) .nil (by simp[Builtin.firstCells]) (by simp) (by simp) (by simpa using jM)
        exact⟨v,w',g',k1,by simpa using k2,by simpa[app] using k3⟩
      ·rename_i sz elems
       split at h
       ·rename_i Ch
        cases h
        have V2:=hs
        cases hs with
        |sl c e1 e2 e3 e4 e5 e6 =>
         rename_i b o len cap
         subst Ch
         have Kl:cap=len:=e6
         subst Kl
         subst e1
         cases xs with
         |nil =>
          have Z6:cs=#[]:=Array.eq_empty_of_size_eq_zero (by simpa using Rr)
          subst Z6
          refine⟨.slice (some ⟨b,o,none⟩) elems.length elems.length,w,g,?_,by simpa using V2,?_⟩
          ·rw[run_append_room (sLen:=elems.length) (sCap:=elems.length) (base:=some ⟨b,o,none⟩) hE h0 h1 Gv Gw he Wb hlen ty tW (by simp)]
           simp[storeCells]
          ·simp only[app]
           refine fC.XE hW _ fun k=>?_
           by_cases hk:k=n
           ·subst hk;exact .inr (.inr ⟨aP _ _ _,hW.fresh _ hn⟩)
           ·exact .inl (aM _ _ hk)
         |cons y ys =>
          obtain⟨_,_,l3,_,co,l4,l5,_⟩:=Lg (P:=E.P) (hW.drew (w.drawn+1)) V2
          obtain⟨v,w',g',k1,k2,k3⟩:=grow (elems:=elems) (co:=co) (base:=some ⟨b,o,none⟩) (sCap:=elems.length) l3 l5 (by simp only[Builtin.firstCells];exact l4) (by simp) (by simp) jM
          exact⟨v,w',g',k1,by simpa using k2,by simpa[app] using k3⟩
       ·cases h
      ·rename_i sz elems t
       split at h
       ·rename_i hH
        split at h
        ·rename_i hc
         obtain⟨Ch,Kn⟩:=hc
         cases h
         have V2:=hs
         cases hs with
         |sl c e1 e2 e3 e4 e5 e6 =>
          rename_i b o len cap
          subst Ch
          subst e1
          obtain⟨n',gO,oz⟩:=e6
          by_cases rC:elems.length+xs.length≤cap
          ·have eE:(H t).live:=by rw[hH];trivial
           obtain⟨bc,T,fr,g1,g2,g3,g4⟩:=hW.tail_at hH gO
           have hmul:(elems.length+xs.length) * ei.size≤cap * ei.size:=Nat.mul_le_mul_right _ rC
           rw[Nat.add_mul]at hmul
           have RL:cs.toList.length=xs.length * ei.size:=by rw[Array.length_toList,Rr]
           have aF3:=fC.extend hW (id:=t) (id2:=n) (lo:=o+elems.length * ei.size) hH hn gO cs.toList (by omega)
           obtain⟨k1,k2,k3⟩:=aF3
           have iI:xs.flatten.all AV.one=true:=by
            rw[List.all_flatten];exact Kn
           have sQ:=run_storeCells_cells (P:=E.P) b (o+elems.length * ei.size) cs.toList 0 w (fun j hj=>by
             rw[Array.length_toList,Rr]at hj
             rw[bL g1]
             simp[show o+elems.length * ei.size+j < bc.size by omega])
            (fun j hj=>by
             rw[Array.length_toList,Rr]at hj
             simp only[World.frozen?,g1]
             have:=g3 (o+elems.length * ei.size+j) (by omega) (by omega)
             simpa using this)
            (Be Tr iI)
           refine⟨.slice (some ⟨b,o,none⟩) (elems.length+xs.length) cap,_,_,?_,?_,k3⟩
           ·rw[run_append_room hE h0 h1 Gv Gw he Wb hlen ty tW rC]
            simp only[mR,sQ,Result.andThen_ok,Nat.add_zero]
           ·have N6:∀ (i:Nat) (cs:List AV),(elems++xs)[i]?=some cs→cs.length=ei.size:=fun i c h=>by
             rw[List.getElem?_append]at h
             split at h
             ·exact e3 _ _ h
             ·exact Ln _ _ h
            obtain⟨_,_,_,_,co,_,l5,l6⟩:=Lg (P:=E.P) hW V2
            have OL:co.size=elems.length * ei.size:=by have:=l5.1;rw[length_flatten elems e3]at this;simpa using this.symm
            refine Gg (by simp) (by omega) N6 (co++cs).toList ?_ (fun k hk=>?_) ⟨n',?_,oz⟩
            ·rw[List.flatten_append,Array.toList_append]
             exact (l5.mono k3.le).append (Tr.mono k3.le)
            ·rw[Array.toList_append,List.getElem?_append]
             split
             ·rename_i nH
              have VY:k < co.size:=by simpa using nH
              have:=l6 k VY
              rw[Array.getElem?_toList,← this]
              have Uz:∃ v,co[k]?=some v:=⟨co[k],Array.getElem?_eq_getElem VY⟩
              obtain⟨v,hv⟩:=Uz
              rw[this,hv]
              exact k3.le.I _ _ _ (by rw[this,hv])
             ·rename_i w7
              have hge':co.size≤k:=by simpa using w7
              have KO:k - co.size < cs.toList.length:=by
               have:k < co.size+cs.size:=by simpa using hk
               simp;omega
              have:=k1 (k - co.size) KO
              rw[show o+elems.length * ei.size+(k - co.size)=o+k by omega]at this
              rw[this];simp
            ·rw[k2,RL,Nat.add_mul,Nat.add_assoc]
          ·obtain⟨_,_,l3,_,co,l4,l5,_⟩:=Lg (P:=E.P) (hW.drew (w.drawn+1)) V2
           obtain⟨v,w',g',k1,k2,k3⟩:=grow (elems:=elems) (co:=co) (base:=some ⟨b,o,none⟩) (sCap:=cap) l3 l5 (by simp only[Builtin.firstCells];exact l4) rC (by omega) jM
           refine⟨v,w',g',k1,k2,k3.trans (fC.forget k3.rel _ fun k=>?_)⟩
           have htn:t≠n:=fun e=>by subst e;rw[hH]at hn;cases hn
           simp only[app]
           by_cases hk:k=n
           ·subst hk;left;rw[aP,aP]
           ·rw[aM _ _ hk]
            by_cases KO:k=t
            ·subst KO;right;rw[aP]
            ·left;rw[aM _ _ KO,aM _ _ hk]
        ·cases h
       ·cases h
      ·cases h
     ·cases h
   ·cases h
  ·cases h
 ·cases h
def EV (E:Env)(H:Nat→dD)(n:Nat)(ats:Array TypeId)(s x:AV):Option my :=
 match s with
 |.q9 sz elems t =>
  match ats[0]?,ats[1]? with
  |some sT,some xT =>
   match E.ty sT,E.ty xT with
   |some ⟨.slice e,_,_,_⟩,some xi =>
    match E.ty e with
    |some ei =>
     if ei.bytes=0∨2 ^ 20 < ei.bytes then none else
     match uW ei xi x,H t with
     |some xs,.tail=>if sz=ei.size∧(xs.all fun c=>c.all AV.one)=true then some { r:=.q9 sz (elems++xs) n,U:=[(t,.dead),(n,.tail)],ob:=(elems.length+xs.length) * ei.bytes≤2 ^ 46 } else none
     |_,_=>none
    |none=>none
   |_,_=>none
  |_,_=>none
 |s=>wT E H n ats s x
theorem Rn {E:Env}(hE:E.Ok){g:Gh}{H:Nat→dD}{w:World}(hW:eR g H w){n:Nat}(hn:H n=.bX){ats:Array TypeId}{s x:AV}{vs vx:Value}(hs:aF g s vs)(hx:aF g x vx){res:my}
  (h:EV E H n ats s x=some res) (jM:res.ob) (ty:TypeId) :
  ∃ v w' g',(Builtin.append_ ats ty #[vs,vx]).run E.P w=.ok v w'∧aF g' res.r v∧fC g H w g' (app H res.U) w':=by
 unfold EV at h
 split at h
 ·rename_i sz elems t
  split at h
  ·rename_i sT xT h0 h1
   split at h
   ·rename_i e s1 b1 z1 xi Gv Gw
    split at h
    ·rename_i ei he
     split at h
     ·cases h
     ·rename_i Ql
      split at h
      ·rename_i xs Il hH
       split at h
       ·rename_i hc
        obtain⟨Ch,Kn⟩:=hc
        cases h
        have htn:t≠n:=fun e=>by subst e;rw[hH]at hn;cases hn
        have full:∀ {g':Gh} {w':World},fC g H w g' (app H [(n,.tail)]) w'→fC g H w g' (app H [(t,.dead),(n,.tail)]) w':=fun {g' w'} iP=>by
         refine iP.trans (fC.forget iP.rel _ fun k=>?_)
         simp only[app]
         by_cases hk:k=n
         ·subst hk;left;rw[aP,aP]
         ·rw[aM _ _ hk,aM _ _ hk]
          by_cases KO:k=t
          ·subst KO;right;rw[aP]
          ·left;rw[aM _ _ KO]
        subst Ch
        cases hs with
        |LP =>
         have h':wT E H n ats (.v (.slice none 0 0)) x=some { r:=bif xs.isEmpty then .v (.slice none 0 0) else .sl ei.size xs (.tail n),U:=[(n,.tail)],ob:=xs.length * ei.bytes≤2 ^ 46 }:=by
          unfold wT
          simp only[h0,h1,Gv,Gw,he,if_neg Ql,Il]
         obtain⟨v,w',g',k1,k2,k3⟩:=Fa hE hW hn (.v _) hx h' (by simpa using jM) ty
         refine⟨v,w',g',k1,?_,full k3⟩
         cases xs with
         |nil=>simp only[List.isEmpty_nil,cond_true]at k2;cases k2;exact .LP
         |cons y ys=>exact .Tw (by simpa using k2)
        |FF hs =>
         have h':wT E H n ats (.sl ei.size elems .full) x=some { r:=bif xs.isEmpty then .sl ei.size elems .full else .sl ei.size (elems++xs) (.tail n),U:=[(n,.tail)],ob:=(elems.length+xs.length) * ei.bytes≤2 ^ 46 }:=by
          unfold wT
          simp only[h0,h1,Gv,Gw,he,if_neg Ql,Il,if_pos]
         obtain⟨v,w',g',k1,k2,k3⟩:=Fa hE hW hn hs hx h' jM ty
         refine⟨v,w',g',k1,?_,full k3⟩
         cases xs with
         |nil=>simp only[List.isEmpty_nil,cond_true]at k2;rw[List.append_nil];exact .FF k2
         |cons y ys=>exact .Tw (by simpa using k2)
        |Tw hs =>
         have h':wT E H n ats (.sl ei.size elems (.tail t)) x=some { r:=.sl ei.size (elems++xs) (.tail n),U:=[(t,.dead),(n,.tail)],ob:=(elems.length+xs.length) * ei.bytes≤2 ^ 46 }:=by
          unfold wT
          simp only[h0,h1,Gv,Gw,he,if_neg Ql,Il,hH]
          simp only[true_and,Kn,if_true]
         obtain⟨v,w',g',k1,k2,k3⟩:=Fa hE hW hn hs hx h' jM ty
         exact⟨v,w',g',k1,.Tw k2,k3⟩
       ·cases h
      ·cases h
    ·cases h
   ·cases h
  ·cases h
 ·exact Fa hE hW hn hs hx h jM ty
theorem VU {E:Env}(hE:E.Ok){g:Gh}{H:Nat→dD}{w:World}(hW:eR g H w){ats:Array TypeId}{x:AV}{vs vx:Value}{sT xT e:TypeId}{s1 b1 t:Nat}{z1:List AV}{xi ei:TI}
  {elems xs:List (List AV)} (h0:ats[0]?=some sT) (h1:ats[1]?=some xT) (Gv:E.ty sT=some ⟨.slice e,s1,b1,z1⟩) (Gw:E.ty xT=some xi) (he:E.ty e=some ei) (Ql:¬ (ei.bytes=0∨2 ^ 20 < ei.bytes))
  (hs:aF g (.q9 ei.size elems t) vs) (hx:aF g x vx) (Il:uW ei xi x=some xs) (hH:H t=.tail) (Kn:(xs.all fun c=>c.all AV.one)=true) (jM:(elems.length+xs.length) * ei.bytes≤2 ^ 46) (ty:TypeId) :
  ∃ v w' g',(Builtin.append_ ats ty #[vs,vx]).run E.P w=.ok v w'∧aF g' .kQ v∧fC g H w g' H w':=by
 have hF:=hE e _ he
 have OJ:ei.bytes≠0:=fun e=>Ql (.inl e)
 have OK:ei.bytes≤2 ^ 20:=by omega
 have Wb:=yV Il
 obtain⟨info,Bv,RN,Qn,z,hz,OP⟩:=hF.info
 obtain⟨hlen,Ln,cs,tW,Tr⟩:=CP (P:=E.P) hW hx Il
 obtain⟨_,_,TZ,Ct,DQ⟩:=CP (P:=E.P) (hW.drew (w.drawn+1)) hx Il
 have Rr:cs.size=xs.length * ei.size:=by have:=Tr.1;rw[length_flatten xs Ln]at this;simpa using this.symm
 have grow:∀ {el:List (List AV)} {co:Array Value} {base:Option Addr} {sCap:Nat},el.length≤elems.length →
   (Builtin.firstCells ei.size el.length (.slice base el.length sCap)).run E.P { w with drawn:=w.drawn+1 }=.ok co { w with drawn:=w.drawn+1 } →
   ¬ el.length+xs.length≤sCap→sCap≤el.length+xs.length →
   ∃ v w' g',(Builtin.append_ ats ty #[.slice base el.length sCap,vx]).run E.P w=.ok v w'∧aF g' .kQ v∧fC g H w g' H w':=by
  intro el co base sCap hel hold rC Kl
  have OI:(el.length+xs.length) * ei.bytes≤2 ^ 46:=Nat.le_trans (Nat.mul_le_mul_right _ (by omega)) jM
  obtain⟨cap,hc,Ms⟩:=run_append_grow hE h0 h1 Gv Gw he Wb hlen ty Bv Qn hz Ct hold rC Kl OJ OK OI
  obtain⟨_,iP⟩:=fC.fixed (hW.drew (w.drawn+1)) (co++TZ++Builtin.zeroCells z.cells (cap - (el.length+xs.length))) e 0
  exact⟨_,_,_,Ms,.kQ rfl,(fC.drew hW (w.drawn+1)).trans iP⟩
 cases hs with
 |LP =>
  cases xs with
  |nil=>exact⟨_,_,g,run_append_room hE h0 h1 Gv Gw he Wb hlen ty tW (Nat.le_refl _),.kQ rfl,.refl hW⟩
  |cons y ys =>
   exact grow (el:=[]) (co:=#[]) (base:=none) (sCap:=0) (by simp) (by simp[Builtin.firstCells]) (by simp) (by simp)
 |FF hs =>
  have V2:=hs
  cases hs with
  |sl c e1 e2 e3 e4 e5 e6 =>
   rename_i b o len cap
   have Kl:cap=len:=e6
   subst Kl
   subst e1
   cases xs with
   |nil =>
    have Z6:cs=#[]:=Array.eq_empty_of_size_eq_zero (by simpa using Rr)
    subst Z6
    refine⟨.slice (some ⟨b,o,none⟩) elems.length elems.length,w,g,?_,.kQ rfl,.refl hW⟩
    rw[run_append_room (sLen:=elems.length) (sCap:=elems.length) (base:=some ⟨b,o,none⟩) hE h0 h1 Gv Gw he Wb hlen ty tW (by simp)]
    simp[storeCells]
   |cons y ys =>
    obtain⟨_,_,l3,_,co,l4,l5,_⟩:=Lg (P:=E.P) (hW.drew (w.drawn+1)) V2
    exact grow (el:=elems) (co:=co) (base:=some ⟨b,o,none⟩) (sCap:=elems.length) (Nat.le_refl _) (by simp only[Builtin.firstCells];exact l4) (by simp) (by simp)
 |Tw hs =>
  have V2:=hs
  cases hs with
  |sl c e1 e2 e3 e4 e5 e6 =>
   rename_i b o len cap
   subst e1
   obtain⟨n',gO,oz⟩:=e6
   by_cases rC:elems.length+xs.length≤cap
   ·have eE:(H t).live:=by rw[hH];trivial
    obtain⟨bc,T,fr,g1,g2,g3,g4⟩:=hW.tail_at hH gO
    have hmul:(elems.length+xs.length) * ei.size≤cap * ei.size:=Nat.mul_le_mul_right _ rC
    rw[Nat.add_mul]at hmul
    have RL:cs.toList.length=xs.length * ei.size:=by rw[Array.length_toList,Rr]
    have iI:xs.flatten.all AV.one=true:=by
     rw[List.all_flatten];exact Kn
    have sQ:=run_storeCells_cells (P:=E.P) b (o+elems.length * ei.size) cs.toList 0 w (fun j hj=>by
      rw[Array.length_toList,Rr]at hj
      rw[bL g1]
      simp[show o+elems.length * ei.size+j < bc.size by omega])
     (fun j hj=>by
      rw[Array.length_toList,Rr]at hj
      simp only[World.frozen?,g1]
      have:=g3 (o+elems.length * ei.size+j) (by omega) (by omega)
      simpa using this)
     (Be Tr iI)
    refine⟨.slice (some ⟨b,o,none⟩) (elems.length+xs.length) cap,_,g,?_,.kQ rfl,fC.aBr hW hH gO cs.toList (by omega)⟩
    rw[run_append_room hE h0 h1 Gv Gw he Wb hlen ty tW rC]
    simp only[mR,sQ,Result.andThen_ok,Nat.add_zero]
   ·obtain⟨_,_,l3,_,co,l4,l5,_⟩:=Lg (P:=E.P) (hW.drew (w.drawn+1)) V2
    exact grow (el:=elems) (co:=co) (base:=some ⟨b,o,none⟩) (sCap:=cap) (Nat.le_refl _) (by simp only[Builtin.firstCells];exact l4) rC (by omega)
structure Ra (P:Program) (g:Gh) (w:World) (sz:Nat) (xs:List (List AV)) (vx:Value):Prop where
 len:∀ d,(Builtin.lenOf vx).run P { w with drawn:=d }=.ok xs.length { w with drawn:=d }
 rows:∀ (i:Nat) (cs:List AV),xs[i]?=some cs→cs.length=sz
 cells:∀ d,∃ cs:Array Value,(Builtin.firstCells sz xs.length vx).run P { w with drawn:=d }=.ok cs { w with drawn:=d }∧cW g xs.flatten cs.toList
theorem Ra.of {P:Program}{g:Gh}{H:Nat→dD}{w:World}(hW:eR g H w){ei xi:TI}{x:AV}{vx:Value}(hx:aF g x vx){xs:List (List AV)}(h:uW ei xi x=some xs):Ra P g w ei.size xs vx :=
 ⟨fun d=>(CP (P:=P) (hW.drew d) hx h).1,(CP (P:=P) hW hx h).2.1,fun d=>(CP (P:=P) (hW.drew d) hx h).2.2⟩
theorem K7 {g:Gh}{id off len sz:Nat}{v:Value}(h:aF g (.Fk id off len sz) v):aF g (.nG id off len len false sz) v:=by
 cases h with
 |Fk e h1 h2=>exact .nG e (Nat.le_refl _) h1 h2
 |Ml=>exact .Jr (fun h=>by cases h)
theorem Vn {g:Gh}{id off len c sz:Nat}{nn:Bool}{v:Value}(h:aF g (.nG id off len c nn sz) v):aF g (.Fk id off len sz) v:=by
 cases h with
 |nG e h1 h2 h3=>exact .Fk e (Nat.le_trans h1 h2) h3
 |Jr _=>exact .Ml
theorem Rm {E:Env}(hE:E.Ok){g:Gh}{H:Nat→dD}{w:World}(hW:eR g H w){n:Nat}(hn:H n=.bX){ats:Array TypeId}{vs vx:Value}{sT xT e:TypeId}{s1 b1 t k c0:Nat}{nn:Bool}{z1:List AV}{xi ei:TI}
  {xs:List (List AV)} {cells:List AV} (h0:ats[0]?=some sT) (h1:ats[1]?=some xT) (Gv:E.ty sT=some ⟨.slice e,s1,b1,z1⟩) (Gw:E.ty xT=some xi) (he:E.ty e=some ei) (Ql:¬ (ei.bytes=0∨2 ^ 20 < ei.bytes))
  (hs:aF g (.nG t 0 k c0 nn ei.size) vs) (Wb:∀ k,xi.d≠.int k) (hS:Ra E.P g w ei.size xs vx) (hH:H t=.eD cells) (hk:k * ei.size≤cells.length) (Kn:(xs.all fun c=>c.all AV.one)=true) (jM:(k+xs.length) * ei.bytes≤2 ^ 46) (ty:TypeId) :
  ∃ v w' g',(Builtin.append_ ats ty #[vs,vx]).run E.P w=.ok v w'∧aF g' (.nG n 0 (k+xs.length) (max c0 (k+xs.length)) (nn || decide (0 < k+xs.length)) ei.size) v∧fC g H w g' (eQ (eQ H t .dead) n (.eD (cells.take (k * ei.size)++xs.flatten))) w':=by
 have hF:=hE e _ he
 have OJ:ei.bytes≠0:=fun e=>Ql (.inl e)
 have OK:ei.bytes≤2 ^ 20:=by omega
 obtain⟨info,Bv,RN,Qn,z,hz,OP⟩:=hF.info
 have Ty:z.cells.size=ei.size:=by have:=(OP g).1;rw[hF.zl]at this;simpa using this.symm
 have hlen:(Builtin.lenOf vx).run E.P w=.ok xs.length w:=hS.len w.drawn
 have Ln:=hS.rows
 obtain⟨cs,tW,Tr⟩:∃ cs:Array Value,(Builtin.firstCells ei.size xs.length vx).run E.P w=.ok cs w∧cW g xs.flatten cs.toList:=hS.cells w.drawn
 obtain⟨TZ,Ct,DQ⟩:=hS.cells (w.drawn+1)
 have Rr:cs.size=xs.length * ei.size:=by have:=Tr.1;rw[length_flatten xs Ln]at this;simpa using this.symm
 have FI:TZ.size=xs.length * ei.size:=by have:=DQ.1;rw[length_flatten xs Ln]at this;simpa using this.symm
 have ON:∀ m,(Builtin.zeroCells z.cells m).size=m * ei.size:=fun m=>by rw[size_zeroCells,Ty]
 have htn:t≠n:=fun e=>by subst e;rw[hH]at hn;cases hn
 have hupd:∀ {c:List AV},eQ (eQ H n (.eD c)) t .dead=eQ (eQ H t .dead) n (.eD c):=fun {c}=>by
  funext j
  by_cases hj:j=n
  ·subst hj;rw[aP,aM _ _ (Ne.symm htn),aP]
  ·rw[aM _ _ hj]
   by_cases ub:j=t
   ·subst ub;rw[aP,aP]
   ·rw[aM _ _ ub,aM _ _ hj,aM _ _ ub]
 have grow:∀ {co:Array Value} {base:Option Addr} {sCap:Nat},cW g (cells.take (k * ei.size)) co.toList →
   (Builtin.firstCells ei.size k (.slice base k sCap)).run E.P { w with drawn:=w.drawn+1 }=.ok co { w with drawn:=w.drawn+1 } →
   ¬ k+xs.length≤sCap→sCap≤k+xs.length→c0≤k+xs.length →
   ∃ v w' g',(Builtin.append_ ats ty #[.slice base k sCap,vx]).run E.P w=.ok v w'∧aF g' (.nG n 0 (k+xs.length) (max c0 (k+xs.length)) (nn || decide (0 < k+xs.length)) ei.size) v∧fC g H w g' (eQ (eQ H t .dead) n (.eD (cells.take (k * ei.size)++xs.flatten))) w':=by
  intro co base sCap N5 hold rC Kl Z6
  obtain⟨cap,hc,Ms⟩:=run_append_grow hE h0 h1 Gv Gw he Wb hlen ty Bv Qn hz Ct hold rC Kl OJ OK jM
  have OL:co.size=k * ei.size:=by have:=N5.1;rw[List.length_take,Nat.min_eq_left hk]at this;simpa using this.symm
  obtain⟨gO,iP⟩:=fC.ye (hW.drew (w.drawn+1)) hn (cells.take (k * ei.size)++xs.flatten) (co++TZ) (Builtin.zeroCells z.cells (cap - (k+xs.length))) e (by rw[Array.toList_append];exact N5.append DQ)
  have Z9:=((fC.drew hW (w.drawn+1)).trans iP)
  have hev3:=Z9.trans (fC.forget Z9.rel (eQ (eQ H n (.eD (cells.take (k * ei.size)++xs.flatten))) t .dead) fun j=>by
   by_cases hj:j=t
   ·subst hj;right;rw[aP]
   ·left;rw[aM _ _ hj])
  rw[hupd]at hev3
  refine⟨_,_,_,Ms,.nG gO (Nat.le_max_right _ _) (by rw[Nat.max_eq_right Z6];exact hc) ?_,hev3⟩
  rw[Array.size_append,Array.size_append,ON,OL,FI,← Nat.add_mul,← Nat.add_mul,Nat.zero_add]
  exact Nat.mul_le_mul_right _ (by omega)
 cases hs with
 |nG gO hkc hcc hb =>
  rename_i b lo n' cap
  have hc:=Nat.le_trans hkc hcc
  have Fs:=hW.zD t
  rw[hH]at Fs
  rcases Fs with⟨e0,_⟩|⟨b',n'',bc,T,fr,e1,e2,e3,e4,e5,e6,e7⟩
  ·rw[gO]at e0;cases e0
  rw[gO]at e1;cases e1
  rw[Nat.zero_add]at hb
  by_cases rC:k+xs.length≤cap
  ·have hmul:(k+xs.length) * ei.size≤cap * ei.size:=Nat.mul_le_mul_right _ rC
   rw[Nat.add_mul]at hmul
   have iI:xs.flatten.all AV.one=true:=by
    rw[List.all_flatten];exact Kn
   have sQ:=run_storeCells_cells (P:=E.P) b (k * ei.size) cs.toList 0 w (fun j hj=>by
     rw[Array.length_toList,Rr]at hj
     rw[bL e2]
     simp[show k * ei.size+j < bc.size by omega])
    (fun j hj=>by
     rw[Array.length_toList,Rr]at hj
     simp only[World.frozen?,e2]
     have:=e4 (k * ei.size+j) (by omega) (by omega)
     simpa using this)
    (Be Tr iI)
   have V3:xs.flatten.length=xs.length * ei.size:=length_flatten xs Ln
   obtain⟨Yh,iP⟩:=fC.aJo hW (id:=t) (id2:=n) (b:=b) (n:=n') (off:=k * ei.size) (cells':=cells.take (k * ei.size)++xs.flatten) (vs:=cs.toList) hH hn gO ⟨xs.flatten,Tr,rfl,hk,by omega⟩
   refine⟨.slice (some ⟨b,0,none⟩) (k+xs.length) cap,_,_,?_,.nG Yh (Nat.le_max_right _ _) (Nat.max_le.2 ⟨hcc,rC⟩) (by omega),iP⟩
   rw[run_append_room hE h0 h1 Gv Gw he Wb hlen ty tW rC]
   simp only[mR,sQ,Result.andThen_ok,Nat.add_zero,Nat.zero_add]
  ·have aI0:(Builtin.firstCells ei.size k (.slice (some ⟨b,0,none⟩) k cap)).run E.P { w with drawn:=w.drawn+1 }=.ok (((List.range (k * ei.size)).map fun j=>(w.cell? ⟨b,0+j,none⟩).getD undef).toArray) { w with drawn:=w.drawn+1 }:=by
    simp only[Builtin.firstCells]
    refine run_loadCells _ _ _ _ fun j hj=>?_
    rw[mR]
    obtain⟨c,h1,_⟩:=e6 j _ (List.getElem?_eq_getElem (show j < cells.length by omega))
    show w.cell? _=_
    rw[bL e2,Nat.zero_add,h1];rfl
   refine grow (co:=((List.range (k * ei.size)).map fun j=>(w.cell? ⟨b,0+j,none⟩).getD undef).toArray) ⟨by simp;omega,fun j y c hy hc=>?_⟩ aI0 rC (by omega) (by omega)
   rw[List.getElem?_take]at hy
   split at hy
   ·rename_i nH
    obtain⟨c',h1,h2⟩:=e6 j y hy
    simp only[List.getElem?_map,List.getElem?_range nH,Option.map_some,Option.some.injEq]at hc
    rw[bL e2,Nat.zero_add,h1]at hc
    simp only[Option.getD_some]at hc
    subst hc;exact h2
   ·cases hy
 |Jr ha =>
  rename_i a
  cases xs with
  |nil =>
   have Z6:cs=#[]:=Array.eq_empty_of_size_eq_zero (by simpa using Rr)
   subst Z6
   refine⟨.slice a 0 0,w,g,?_,.Jr (fun h=>ha (by simpa using h)),?_⟩
   ·rw[run_append_room hE h0 h1 Gv Gw he Wb hlen ty tW (by simp)]
    cases a<;>simp[storeCells]
   ·refine fC.H8 hW _ fun j=>?_
    by_cases hj:j=n
    ·subst hj;right;right;exact⟨by rw[aP];simp,hW.fresh _ hn⟩
    ·rw[aM _ _ hj]
     by_cases ub:j=t
     ·subst ub;right;left;rw[aP]
     ·left;rw[aM _ _ ub]
  |cons y ys =>
   exact grow (co:=#[]) (base:=a) (sCap:=0) (by simp;exact .nil) (by cases a<;>simp[Builtin.firstCells,loadCells,loadCellsFrom]) (by simp) (by simp) (Nat.zero_le _)
theorem VV {E:Env}(hE:E.Ok){g:Gh}{H:Nat→dD}{w:World}(hW:eR g H w){n:Nat}(hn:H n=.bX){ats:Array TypeId}{x:AV}{vs vx:Value}{sT xT e:TypeId}{s1 b1 t k:Nat}{z1:List AV}{xi ei:TI}
  {xs:List (List AV)} {cells:List AV} (h0:ats[0]?=some sT) (h1:ats[1]?=some xT) (Gv:E.ty sT=some ⟨.slice e,s1,b1,z1⟩) (Gw:E.ty xT=some xi) (he:E.ty e=some ei) (Ql:¬ (ei.bytes=0∨2 ^ 20 < ei.bytes))
  (hs:aF g (.Fk t 0 k ei.size) vs) (hx:aF g x vx) (Il:uW ei xi x=some xs) (hH:H t=.eD cells) (hk:k * ei.size≤cells.length) (Kn:(xs.all fun c=>c.all AV.one)=true) (jM:(k+xs.length) * ei.bytes≤2 ^ 46) (ty:TypeId) :
  ∃ v w' g',(Builtin.append_ ats ty #[vs,vx]).run E.P w=.ok v w'∧aF g' (.Fk n 0 (k+xs.length) ei.size) v∧fC g H w g' (eQ (eQ H t .dead) n (.eD (cells.take (k * ei.size)++xs.flatten))) w':=by
 obtain⟨v,w',g',k1,k2,k3⟩:=Rm hE hW hn h0 h1 Gv Gw he Ql (K7 hs) (yV Il) (.of hW hx Il) hH hk Kn jM ty
 exact⟨v,w',g',k1,Vn k2,k3⟩
theorem Rk {E:Env}(hE:E.Ok){g:Gh}{H:Nat→dD}{w:World}(hW:eR g H w){n:Nat}(hn:H n=.bX){ats:Array TypeId}{a:Option Addr}{vx:Value}{sT xT e:TypeId}{s1 b1:Nat}{z1:List AV}{xi ei:TI}
  {xs:List (List AV)} (h0:ats[0]?=some sT) (h1:ats[1]?=some xT) (Gv:E.ty sT=some ⟨.slice e,s1,b1,z1⟩) (Gw:E.ty xT=some xi) (he:E.ty e=some ei) (Ql:¬ (ei.bytes=0∨2 ^ 20 < ei.bytes))
  (Wb:∀ k,xi.d≠.int k) (hS:Ra E.P g w ei.size xs vx) (jM:xs.length * ei.bytes≤2 ^ 46) (ty:TypeId) :
  ∃ v w' g',(Builtin.append_ ats ty #[.slice a 0 0,vx]).run E.P w=.ok v w'∧aF g' (.nG n 0 xs.length xs.length (decide (0 < xs.length)) ei.size) v∧fC g H w g' (eQ H n (.eD xs.flatten)) w':=by
 have hF:=hE e _ he
 have OJ:ei.bytes≠0:=fun e=>Ql (.inl e)
 have OK:ei.bytes≤2 ^ 20:=by omega
 obtain⟨info,Bv,RN,Qn,z,hz,OP⟩:=hF.info
 have Ty:z.cells.size=ei.size:=by have:=(OP g).1;rw[hF.zl]at this;simpa using this.symm
 have hlen:(Builtin.lenOf vx).run E.P w=.ok xs.length w:=hS.len w.drawn
 have Ln:=hS.rows
 obtain⟨cs,tW,Tr⟩:∃ cs:Array Value,(Builtin.firstCells ei.size xs.length vx).run E.P w=.ok cs w∧cW g xs.flatten cs.toList:=hS.cells w.drawn
 obtain⟨TZ,Ct,DQ⟩:=hS.cells (w.drawn+1)
 have Rr:cs.size=xs.length * ei.size:=by have:=Tr.1;rw[length_flatten xs Ln]at this;simpa using this.symm
 have FI:TZ.size=xs.length * ei.size:=by have:=DQ.1;rw[length_flatten xs Ln]at this;simpa using this.symm
 have ON:∀ m,(Builtin.zeroCells z.cells m).size=m * ei.size:=fun m=>by rw[size_zeroCells,Ty]
 cases xs with
 |nil =>
  have Z6:cs=#[]:=Array.eq_empty_of_size_eq_zero (by simpa using Rr)
  subst Z6
  refine⟨.slice a 0 0,w,g,?_,.Jr (fun h=>by simp at h),?_⟩
  ·rw[run_append_room hE h0 h1 Gv Gw he Wb hlen ty tW (by simp)]
   cases a<;>simp[storeCells]
  ·refine fC.H8 hW _ fun j=>?_
   by_cases hj:j=n
   ·subst hj;right;right;exact⟨by rw[aP];simp,hW.fresh _ hn⟩
   ·left;rw[aM _ _ hj]
 |cons y ys =>
  obtain⟨cap,hc,Ms⟩:=run_append_grow (base:=a) (sLen:=0) (sCap:=0) (co:=#[]) hE h0 h1 Gv Gw he Wb hlen ty Bv Qn hz Ct (by cases a<;>simp[Builtin.firstCells,loadCells,loadCellsFrom]) (by simp) (by simp) OJ OK (by simpa using jM)
  obtain⟨gO,iP⟩:=fC.ye (hW.drew (w.drawn+1)) hn (y :: ys).flatten (#[]++TZ) (Builtin.zeroCells z.cells (cap - (0+(y :: ys).length))) e (by simpa using DQ)
  refine⟨_,_,_,Ms,?_,(fC.drew hW (w.drawn+1)).trans iP⟩
  have ew:(y :: ys).length≤cap:=by omega
  rw[show 0+(y :: ys).length=(y :: ys).length from Nat.zero_add _]at gO ⊢
  refine .nG gO (Nat.le_refl _) ew ?_
  rw[Array.size_append,Array.size_append,ON,FI]
  simp only[Array.size_empty,Nat.zero_add]
  rw[← Nat.add_mul]
  exact Nat.mul_le_mul_right _ (by omega)
theorem DB {E:Env}(hE:E.Ok){g:Gh}{H:Nat→dD}{w:World}(hW:eR g H w){n:Nat}(hn:H n=.bX){ats:Array TypeId}{x:AV}{a:Option Addr}{vx:Value}{sT xT e:TypeId}{s1 b1:Nat}{z1:List AV}{xi ei:TI}
  {xs:List (List AV)} (h0:ats[0]?=some sT) (h1:ats[1]?=some xT) (Gv:E.ty sT=some ⟨.slice e,s1,b1,z1⟩) (Gw:E.ty xT=some xi) (he:E.ty e=some ei) (Ql:¬ (ei.bytes=0∨2 ^ 20 < ei.bytes))
  (hx:aF g x vx) (Il:uW ei xi x=some xs) (jM:xs.length * ei.bytes≤2 ^ 46) (ty:TypeId) :
  ∃ v w' g',(Builtin.append_ ats ty #[.slice a 0 0,vx]).run E.P w=.ok v w'∧aF g' (.Fk n 0 xs.length ei.size) v∧fC g H w g' (eQ H n (.eD xs.flatten)) w':=by
 obtain⟨v,w',g',k1,k2,k3⟩:=Rk hE hW hn h0 h1 Gv Gw he Ql (a:=a) (yV Il) (.of hW hx Il) jM ty
 exact⟨v,w',g',k1,Vn k2,k3⟩
theorem Rl {E:Env}(hE:E.Ok){g:Gh}{H:Nat→dD}{w:World}(hW:eR g H w){n:Nat}(hn:H n=.bX){ats:Array TypeId}{a:Option Addr}(ha:a=none∨∃ b o,a=some ⟨b,o,none⟩){vx:Value}{sT xT e:TypeId}{s1 b1:Nat}{z1:List AV}{xi ei:TI}
  {xs:List (List AV)} (h0:ats[0]?=some sT) (h1:ats[1]?=some xT) (Gv:E.ty sT=some ⟨.slice e,s1,b1,z1⟩) (Gw:E.ty xT=some xi) (he:E.ty e=some ei) (Ql:¬ (ei.bytes=0∨2 ^ 20 < ei.bytes))
  (Wb:∀ k,xi.d≠.int k) (hS:Ra E.P g w ei.size xs vx) (jM:xs.length * ei.bytes≤2 ^ 46) (ty:TypeId) :
  ∃ v w' g',(Builtin.append_ ats ty #[.slice a 0 0,vx]).run E.P w=.ok v w'∧aF g' (.q9 ei.size xs n) v∧fC g H w g' (eQ H n .tail) w':=by
 have hF:=hE e _ he
 have OJ:ei.bytes≠0:=fun e=>Ql (.inl e)
 have OK:ei.bytes≤2 ^ 20:=by omega
 obtain⟨info,Bv,RN,Qn,z,hz,OP⟩:=hF.info
 have Ty:z.cells.size=ei.size:=by have:=(OP g).1;rw[hF.zl]at this;simpa using this.symm
 have hlen:(Builtin.lenOf vx).run E.P w=.ok xs.length w:=hS.len w.drawn
 have Ln:=hS.rows
 obtain⟨cs,tW,Tr⟩:∃ cs:Array Value,(Builtin.firstCells ei.size xs.length vx).run E.P w=.ok cs w∧cW g xs.flatten cs.toList:=hS.cells w.drawn
 obtain⟨TZ,Ct,DQ⟩:=hS.cells (w.drawn+1)
 have Rr:cs.size=xs.length * ei.size:=by have:=Tr.1;rw[length_flatten xs Ln]at this;simpa using this.symm
 have FI:TZ.size=xs.length * ei.size:=by have:=DQ.1;rw[length_flatten xs Ln]at this;simpa using this.symm
 cases xs with
 |nil =>
  have Z6:cs=#[]:=Array.eq_empty_of_size_eq_zero (by simpa using Rr)
  subst Z6
  have wq:fC g H w g (eQ H n .tail) w:=fC.XE hW _ fun j=>by
   by_cases hj:j=n
   ·subst hj;right;right;exact⟨by rw[aP],hW.fresh _ hn⟩
   ·left;rw[aM _ _ hj]
  refine⟨.slice a 0 0,w,g,?_,?_,wq⟩
  ·rw[run_append_room hE h0 h1 Gv Gw he Wb hlen ty tW (by simp)]
   cases a<;>simp[storeCells]
  ·rcases ha with rfl|⟨b,o,rfl⟩
   ·exact .LP
   ·exact .FF (.sl (fun _ _=>undef) rfl (Nat.le_refl _) (by simp) (by simp) (by simp) rfl)
 |cons y ys =>
  obtain⟨cap,hc,Ms⟩:=run_append_grow (base:=a) (sLen:=0) (sCap:=0) (co:=#[]) hE h0 h1 Gv Gw he Wb hlen ty Bv Qn hz Ct (by cases a<;>simp[Builtin.firstCells,loadCells,loadCellsFrom]) (by simp) (by simp) OJ OK (by simpa using jM)
  obtain⟨g',k1,k2⟩:=grown (E:=E) hW hn Ln TZ (Builtin.zeroCells z.cells (cap - (0+(y :: ys).length))) DQ e cap (by omega) (by
   rw[Array.size_append,size_zeroCells,Ty,FI,← Nat.add_mul];congr 1;omega) (w.drawn+1)
  refine⟨_,_,g',Ms,.Tw ?_,?_⟩
  ·rw[Nat.zero_add];exact k1
  ·rw[Array.empty_append];exact k2
theorem EW {E:Env}(hE:E.Ok){g:Gh}{H:Nat→dD}{w:World}(hW:eR g H w){n:Nat}(hn:H n=.bX){ats:Array TypeId}{vs vx:Value}{sT xT e:TypeId}{s1 b1:Nat}{z1:List AV}{xi ei:TI}
  {xs elems:List (List AV)} (h0:ats[0]?=some sT) (h1:ats[1]?=some xT) (Gv:E.ty sT=some ⟨.slice e,s1,b1,z1⟩) (Gw:E.ty xT=some xi) (he:E.ty e=some ei) (Ql:¬ (ei.bytes=0∨2 ^ 20 < ei.bytes))
  (Wb:∀ k,xi.d≠.int k) (hS:Ra E.P g w ei.size xs vx)
  (hs:aF g (.sl ei.size elems .full) vs) (jM:(elems.length+xs.length) * ei.bytes≤2 ^ 46) (ty:TypeId) :
  ∃ v w' g',(Builtin.append_ ats ty #[vs,vx]).run E.P w=.ok v w'∧aF g' (.q9 ei.size (elems++xs) n) v∧fC g H w g' (eQ H n .tail) w':=by
 have hF:=hE e _ he
 have OJ:ei.bytes≠0:=fun e=>Ql (.inl e)
 have OK:ei.bytes≤2 ^ 20:=by omega
 obtain⟨info,Bv,RN,Qn,z,hz,OP⟩:=hF.info
 have Ty:z.cells.size=ei.size:=by have:=(OP g).1;rw[hF.zl]at this;simpa using this.symm
 have hlen:(Builtin.lenOf vx).run E.P w=.ok xs.length w:=hS.len w.drawn
 have Ln:=hS.rows
 obtain⟨cs,tW,Tr⟩:∃ cs:Array Value,(Builtin.firstCells ei.size xs.length vx).run E.P w=.ok cs w∧cW g xs.flatten cs.toList:=hS.cells w.drawn
 obtain⟨TZ,Ct,DQ⟩:=hS.cells (w.drawn+1)
 have Rr:cs.size=xs.length * ei.size:=by have:=Tr.1;rw[length_flatten xs Ln]at this;simpa using this.symm
 have FI:TZ.size=xs.length * ei.size:=by have:=DQ.1;rw[length_flatten xs Ln]at this;simpa using this.symm
 have ON:∀ m,(Builtin.zeroCells z.cells m).size=m * ei.size:=fun m=>by rw[size_zeroCells,Ty]
 have both:∀ {elems:List (List AV)} {co:Array Value},(∀ (i:Nat) (cs:List AV),elems[i]?=some cs→cs.length=ei.size)→cW g elems.flatten co.toList →
   (∀ (i:Nat) (cs:List AV),(elems++xs)[i]?=some cs→cs.length=ei.size)∧cW g (elems++xs).flatten (co++TZ).toList:=fun fa N5=>by
  refine⟨fun i c h=>?_,?_⟩
  ·rw[List.getElem?_append]at h
   split at h
   ·exact fa _ _ h
   ·exact Ln _ _ h
  ·rw[List.flatten_append,Array.toList_append];exact N5.append DQ
 have grow:∀ {elems:List (List AV)} {co:Array Value} {base:Option Addr} {sCap:Nat},(∀ (i:Nat) (cs:List AV),elems[i]?=some cs→cs.length=ei.size)→cW g elems.flatten co.toList →
   (Builtin.firstCells ei.size elems.length (.slice base elems.length sCap)).run E.P { w with drawn:=w.drawn+1 }=.ok co { w with drawn:=w.drawn+1 } →
   ¬ elems.length+xs.length≤sCap→sCap≤elems.length+xs.length→(elems.length+xs.length) * ei.bytes≤2 ^ 46 →
   ∃ v w' g',(Builtin.append_ ats ty #[.slice base elems.length sCap,vx]).run E.P w=.ok v w'∧aF g' (.sl ei.size (elems++xs) (.tail n)) v∧fC g H w g' (eQ H n .tail) w':=by
  intro elems co base sCap fa N5 hold rC Kl OI
  obtain⟨cap,hc,Ms⟩:=run_append_grow hE h0 h1 Gv Gw he Wb hlen ty Bv Qn hz Ct hold rC Kl OJ OK OI
  obtain⟨N6,hr2⟩:=both fa N5
  have OL:co.size=elems.length * ei.size:=by have:=N5.1;rw[length_flatten elems fa]at this;simpa using this.symm
  obtain⟨g',k1,k2⟩:=grown (E:=E) hW hn N6 (co++TZ) (Builtin.zeroCells z.cells (cap - (elems.length+xs.length))) hr2 e cap (by simpa using hc)
   (by rw[Array.size_append,Array.size_append,ON,OL,FI,← Nat.add_mul,← Nat.add_mul];congr 1;omega) (w.drawn+1)
  exact⟨_,_,g',Ms,by simpa using k1,k2⟩
 have V2:=hs
 cases hs with
 |sl c e1 e2 e3 e4 e5 e6 =>
  rename_i b o len cap
  have Kl:cap=len:=e6
  subst Kl
  subst e1
  cases xs with
  |nil =>
   have Z6:cs=#[]:=Array.eq_empty_of_size_eq_zero (by simpa using Rr)
   subst Z6
   refine⟨.slice (some ⟨b,o,none⟩) elems.length elems.length,w,g,?_,.FF (by simpa using V2),?_⟩
   ·rw[run_append_room (sLen:=elems.length) (sCap:=elems.length) (base:=some ⟨b,o,none⟩) hE h0 h1 Gv Gw he Wb hlen ty tW (by simp)]
    simp[storeCells]
   ·refine fC.XE hW _ fun k=>?_
    by_cases hk:k=n
    ·subst hk;exact .inr (.inr ⟨aP _ _ _,hW.fresh _ hn⟩)
    ·exact .inl (aM _ _ hk)
  |cons y ys =>
   obtain⟨_,_,l3,_,co,l4,l5,_⟩:=Lg (P:=E.P) (hW.drew (w.drawn+1)) V2
   obtain⟨v,w',g',k1,k2,k3⟩:=grow (elems:=elems) (co:=co) (base:=some ⟨b,o,none⟩) (sCap:=elems.length) l3 l5 (by simp only[Builtin.firstCells];exact l4) (by simp) (by simp) jM
   exact⟨v,w',g',k1,.Tw k2,k3⟩
theorem YZ {E:Env}(hE:E.Ok){g:Gh}{H:Nat→dD}{w:World}(hW:eR g H w){n:Nat}(hn:H n=.bX){ats:Array TypeId}{vs vx:Value}{sT xT e:TypeId}{s1 b1:Nat}{z1:List AV}{xi ei:TI}
  {xs elems:List (List AV)} (h0:ats[0]?=some sT) (h1:ats[1]?=some xT) (Gv:E.ty sT=some ⟨.slice e,s1,b1,z1⟩) (Gw:E.ty xT=some xi) (he:E.ty e=some ei) (Ql:¬ (ei.bytes=0∨2 ^ 20 < ei.bytes))
  (Wb:∀ k,xi.d≠.int k) (hS:Ra E.P g w ei.size xs vx) {t:Nat} (hH:H t=.tail) (Kn:(xs.all fun c=>c.all AV.one)=true)
  (hs:aF g (.q9 ei.size elems t) vs) (jM:(elems.length+xs.length) * ei.bytes≤2 ^ 46) (ty:TypeId) :
  ∃ v w' g',(Builtin.append_ ats ty #[vs,vx]).run E.P w=.ok v w'∧aF g' (.q9 ei.size (elems++xs) n) v∧fC g H w g' (eQ (eQ H t .dead) n .tail) w':=by
 have htn:t≠n:=fun e=>by subst e;rw[hH]at hn;cases hn
 have full:∀ {g':Gh} {w':World},fC g H w g' (eQ H n .tail) w'→fC g H w g' (eQ (eQ H t .dead) n .tail) w':=fun {g' w'} iP=>by
  refine iP.trans (fC.forget iP.rel _ fun k=>?_)
  by_cases hk:k=n
  ·subst hk;left;rw[aP,aP]
  ·rw[aM _ _ hk,aM _ _ hk]
   by_cases KO:k=t
   ·subst KO;right;rw[aP]
   ·left;rw[aM _ _ KO]
 cases hs with
 |LP =>
  obtain⟨v,w',g',k1,k2,k3⟩:=Rl hE hW hn (a:=none) (.inl rfl) h0 h1 Gv Gw he Ql Wb hS (by simpa using jM) ty
  exact⟨v,w',g',k1,k2,full k3⟩
 |FF hs =>
  obtain⟨v,w',g',k1,k2,k3⟩:=EW hE hW hn h0 h1 Gv Gw he Ql Wb hS hs jM ty
  exact⟨v,w',g',k1,k2,full k3⟩
 |Tw hs =>
  have hF:=hE e _ he
  have OJ:ei.bytes≠0:=fun e=>Ql (.inl e)
  have OK:ei.bytes≤2 ^ 20:=by omega
  obtain⟨info,Bv,RN,Qn,z,hz,OP⟩:=hF.info
  have Ty:z.cells.size=ei.size:=by have:=(OP g).1;rw[hF.zl]at this;simpa using this.symm
  have hlen:(Builtin.lenOf vx).run E.P w=.ok xs.length w:=hS.len w.drawn
  have Ln:=hS.rows
  obtain⟨cs,tW,Tr⟩:∃ cs:Array Value,(Builtin.firstCells ei.size xs.length vx).run E.P w=.ok cs w∧cW g xs.flatten cs.toList:=hS.cells w.drawn
  obtain⟨TZ,Ct,DQ⟩:=hS.cells (w.drawn+1)
  have Rr:cs.size=xs.length * ei.size:=by have:=Tr.1;rw[length_flatten xs Ln]at this;simpa using this.symm
  have FI:TZ.size=xs.length * ei.size:=by have:=DQ.1;rw[length_flatten xs Ln]at this;simpa using this.symm
  have ON:∀ m,(Builtin.zeroCells z.cells m).size=m * ei.size:=fun m=>by rw[size_zeroCells,Ty]
  have both:∀ {elems:List (List AV)} {co:Array Value},(∀ (i:Nat) (cs:List AV),elems[i]?=some cs→cs.length=ei.size)→cW g elems.flatten co.toList →
    (∀ (i:Nat) (cs:List AV),(elems++xs)[i]?=some cs→cs.length=ei.size)∧cW g (elems++xs).flatten (co++TZ).toList:=fun fa N5=>by
   refine⟨fun i c h=>?_,?_⟩
   ·rw[List.getElem?_append]at h
    split at h
    ·exact fa _ _ h
    ·exact Ln _ _ h
   ·rw[List.flatten_append,Array.toList_append];exact N5.append DQ
  have grow:∀ {elems:List (List AV)} {co:Array Value} {base:Option Addr} {sCap:Nat},(∀ (i:Nat) (cs:List AV),elems[i]?=some cs→cs.length=ei.size)→cW g elems.flatten co.toList →
    (Builtin.firstCells ei.size elems.length (.slice base elems.length sCap)).run E.P { w with drawn:=w.drawn+1 }=.ok co { w with drawn:=w.drawn+1 } →
    ¬ elems.length+xs.length≤sCap→sCap≤elems.length+xs.length→(elems.length+xs.length) * ei.bytes≤2 ^ 46 →
    ∃ v w' g',(Builtin.append_ ats ty #[.slice base elems.length sCap,vx]).run E.P w=.ok v w'∧aF g' (.sl ei.size (elems++xs) (.tail n)) v∧fC g H w g' (eQ H n .tail) w':=by
   intro elems co base sCap fa N5 hold rC Kl OI
   obtain⟨cap,hc,Ms⟩:=run_append_grow hE h0 h1 Gv Gw he Wb hlen ty Bv Qn hz Ct hold rC Kl OJ OK OI
   obtain⟨N6,hr2⟩:=both fa N5
   have OL:co.size=elems.length * ei.size:=by have:=N5.1;rw[length_flatten elems fa]at this;simpa using this.symm
   obtain⟨g',k1,k2⟩:=grown (E:=E) hW hn N6 (co++TZ) (Builtin.zeroCells z.cells (cap - (elems.length+xs.length))) hr2 e cap (by simpa using hc)
    (by rw[Array.size_append,Array.size_append,ON,OL,FI,← Nat.add_mul,← Nat.add_mul];congr 1;omega) (w.drawn+1)
   exact⟨_,_,g',Ms,by simpa using k1,k2⟩
  have V2:=hs
  cases hs with
  |sl c e1 e2 e3 e4 e5 e6 =>
   rename_i b o len cap
   subst e1
   obtain⟨n',gO,oz⟩:=e6
   by_cases rC:elems.length+xs.length≤cap
   ·have eE:(H t).live:=by rw[hH];trivial
    obtain⟨bc,T,fr,g1,g2,g3,g4⟩:=hW.tail_at hH gO
    have hmul:(elems.length+xs.length) * ei.size≤cap * ei.size:=Nat.mul_le_mul_right _ rC
    rw[Nat.add_mul]at hmul
    have RL:cs.toList.length=xs.length * ei.size:=by rw[Array.length_toList,Rr]
    have aF3:=fC.extend hW (id:=t) (id2:=n) (lo:=o+elems.length * ei.size) hH hn gO cs.toList (by omega)
    obtain⟨k1,k2,k3⟩:=aF3
    have iI:xs.flatten.all AV.one=true:=by
     rw[List.all_flatten];exact Kn
    have sQ:=run_storeCells_cells (P:=E.P) b (o+elems.length * ei.size) cs.toList 0 w (fun j hj=>by
      rw[Array.length_toList,Rr]at hj
      rw[bL g1]
      simp[show o+elems.length * ei.size+j < bc.size by omega])
     (fun j hj=>by
      rw[Array.length_toList,Rr]at hj
      simp only[World.frozen?,g1]
      have:=g3 (o+elems.length * ei.size+j) (by omega) (by omega)
      simpa using this)
     (Be Tr iI)
    refine⟨.slice (some ⟨b,o,none⟩) (elems.length+xs.length) cap,_,_,?_,?_,k3⟩
    ·rw[run_append_room hE h0 h1 Gv Gw he Wb hlen ty tW rC]
     simp only[mR,sQ,Result.andThen_ok,Nat.add_zero]
    ·have N6:∀ (i:Nat) (cs:List AV),(elems++xs)[i]?=some cs→cs.length=ei.size:=fun i c h=>by
      rw[List.getElem?_append]at h
      split at h
      ·exact e3 _ _ h
      ·exact Ln _ _ h
     obtain⟨_,_,_,_,co,_,l5,l6⟩:=Lg (P:=E.P) hW V2
     have OL:co.size=elems.length * ei.size:=by have:=l5.1;rw[length_flatten elems e3]at this;simpa using this.symm
     refine .Tw (Gg (by simp) (by omega) N6 (co++cs).toList ?_ (fun k hk=>?_) ⟨n',?_,oz⟩)
     ·rw[List.flatten_append,Array.toList_append]
      exact (l5.mono k3.le).append (Tr.mono k3.le)
     ·rw[Array.toList_append,List.getElem?_append]
      split
      ·rename_i nH
       have VY:k < co.size:=by simpa using nH
       have:=l6 k VY
       rw[Array.getElem?_toList,← this]
       have Uz:∃ v,co[k]?=some v:=⟨co[k],Array.getElem?_eq_getElem VY⟩
       obtain⟨v,hv⟩:=Uz
       rw[this,hv]
       exact k3.le.I _ _ _ (by rw[this,hv])
      ·rename_i w7
       have hge':co.size≤k:=by simpa using w7
       have KO:k - co.size < cs.toList.length:=by
        have:k < co.size+cs.size:=by simpa using hk
        simp;omega
       have:=k1 (k - co.size) KO
       rw[show o+elems.length * ei.size+(k - co.size)=o+k by omega]at this
       rw[this];simp
     ·rw[k2,RL,Nat.add_mul,Nat.add_assoc]
   ·obtain⟨_,_,l3,_,co,l4,l5,_⟩:=Lg (P:=E.P) (hW.drew (w.drawn+1)) V2
    obtain⟨v,w',g',k1,k2,k3⟩:=grow (elems:=elems) (co:=co) (base:=some ⟨b,o,none⟩) (sCap:=cap) l3 l5 (by simp only[Builtin.firstCells];exact l4) rC (by omega) jM
    exact⟨v,w',g',k1,.Tw k2,full k3⟩
end Go.Ev
