/-
More of the abstract evaluator's operations: addresses,parts,indexes,CO,lengths.
-/
import Derived.Test.YtddpmkmgbdedlaaGreatqEvC
set_option linter.unusedVariables false
set_option linter.unusedSimpArgs false
namespace Go.Ev
open Go
structure my where
 r:AV
 U:List (Nat×dD):=[]
 ob:Prop:=True
def Gu (E:Env)(t:TypeId)(a:AV)(k:Nat):Option AV :=
 match E.ty t with
 |some ⟨.struct fields,_,_,_⟩ =>
  match fields[k]? with
  |some f =>
   match E.ty f.type with
   |some fi=>if fi.size=0 then none else match a with
    |.ptr id off=>some (.ptr id (off+f.offset))
    |.rL cells off=>some (.rL cells (off+f.offset))
    |_=>none
   |none=>none
  |none=>none
 |_=>none
theorem Uu {E:Env}(hE:E.Ok){g:Gh}{t:TypeId}{a r:AV}{va:Value}{k:Nat}(ha:aF g a va)(h:Gu E t a k=some r)(w:World) :
  ∃ v,(Instr.fieldAt t va k).run E.P w=.ok v w∧aF g r v:=by
 unfold Gu at h
 split at h
 ·rename_i fields _ _ _ ht
  have hT:=hE t _ ht
  split at h
  ·rename_i f hf
   split at h
   ·rename_i fi tz
    have hF:=hE f.type _ tz
    split at h
    ·cases h
    ·rename_i dF
     have run:∀ b o,(Instr.fieldAt t (.pointer (some ⟨b,o,none⟩)) k).run E.P w=.ok (.pointer (some ⟨b,o+f.offset,none⟩)) w:=fun b o=>by
      simp only[Instr.fieldAt,Sem.run_bind,hT.underlying,Result.andThen_ok,hf,Instr.sureAddr,Sem.run_pure,fieldPlace,hF.sizeOf,if_neg dF,mR]
     split at h
     ·cases h
      cases ha with
      |ptr e=>exact⟨_,run _ _,.ptr e⟩
     ·cases h
      cases ha with
      |rL c e1 e2=>exact⟨_,run _ _,by rw[Nat.add_assoc];exact .rL c e1 e2⟩
     ·cases h
   ·cases h
  ·cases h
 ·cases h
def M6 (E:Env)(t:TypeId)(x:AV)(k:Nat):Option AV :=
 match E.ty t,x.cells? with
 |some ⟨.struct fields,_,_,_⟩,some cells =>
  match fields[k]?,x with
  |some f,.agg _|some f,.v (.agg _)=>LM E f.type cells f.offset
  |_,_=>none
 |_,_=>none
theorem v5 {E:Env}(hE:E.Ok){g:Gh}{t:TypeId}{x r:AV}{vx:Value}{k:Nat}(hx:aF g x vx)(h:M6 E t x k=some r)(w:World) :
  ∃ v,(Instr.field t vx k).run E.P w=.ok v w∧aF g r v:=by
 unfold M6 at h
 split at h
 ·rename_i fields _ _ _ cells ht hc
  have hT:=hE t _ ht
  have wU:=Bi hx hc
  split at h
  ·rename_i f l hf
   cases hx with
   |agg e h1 =>
    rename_i cs
    obtain⟨v,hv,hr⟩:=AP hE (cs:=cs) (by simpa[Value.cells] using wU) h w
    exact⟨v,by simp only[Instr.field,Sem.run_bind,hT.underlying,Result.andThen_ok,hf,asAgg,pure_bind,hv],hr⟩
  ·rename_i f l hf
   cases hx with
   |v =>
    obtain⟨v,hv,hr⟩:=AP hE (cs:=l) (by simpa[Value.cells] using wU) h w
    exact⟨v,by simp only[Instr.field,Sem.run_bind,hT.underlying,Result.andThen_ok,hf,asAgg,pure_bind,hv],hr⟩
  ·cases h
 ·cases h
def jL (E:Env)(t:TypeId)(x ix:AV):Option my :=
 match E.ty t,ix with
 |some ⟨.array n e,_,_,_⟩,.v (.int _ i) =>
  match E.ty e,x with
  |some ei,.ptr id off=>some { r:=.ptr id (off+i.toNat * ei.size),ob:=0≤i∧i < n }
  |some ei,.rL cells off=>some { r:=.rL cells (off+i.toNat * ei.size),ob:=0≤i∧i < n }
  |_,_=>none
 |some ⟨.slice e,_,_,_⟩,.v (.int _ i) =>
  match E.ty e,x with
  |some ei,.sl sz elems _|some ei,.xA sz elems=>if sz=ei.size then some { r:=.rL (elems.getD i.toNat []) 0,ob:=0≤i∧i < elems.length } else none
  |some ei,.Fk id off len sz=>if sz=ei.size then some { r:=.ptr id (off+i.toNat * sz),ob:=0≤i∧i < len } else none
  |_,_=>none
 |_,_=>none
theorem qu {g:Gh}{sz:Nat}{elems:List (List AV)}{tok:Tok}{v:Value}(h:aF g (.sl sz elems tok) v){i:Nat}(hi:i < elems.length) :
  ∃ b o cap,v=.slice (some ⟨b,o,none⟩) elems.length cap∧aF g (.rL (elems.getD i []) 0) (.pointer (some ⟨b,o+i * sz,none⟩)):=by
 cases h with
 |sl c e1 e2 e3 e4 e5 e6 =>
  rename_i b o len cap
  subst e1
  have hg:elems[i]?=some (elems.getD i []):=by simp[List.getD,List.getElem?_eq_getElem hi]
  exact⟨b,o,cap,rfl,.rL (off:=0) (o:=o+i * sz) (c i) (fun k x hx=>e4 i _ k x hg hx) (fun k x hx=>e5 i _ k x hg hx)⟩
theorem oT {E:Env}(hE:E.Ok){g:Gh}{t:TypeId}{x ix:AV}{vx vi:Value}(hx:aF g x vx)(jl:aF g ix vi){res:my}(h:jL E t x ix=some res)(jM:res.ob)(w:World) :
  ∃ v,(Instr.indexAt t vx vi).run E.P w=.ok v w∧aF g res.r v∧res.U=[]:=by
 unfold jL at h
 split at h
 ·rename_i n e _ _ _ k i ht
  have hT:=hE t _ ht
  cases jl
  split at h
  ·rename_i ei id off he
   have hF:=hE e _ he
   cases h
   cases hx with
   |ptr e1 =>
    refine⟨_,?_,.ptr e1,rfl⟩
    simp only[Instr.indexAt,asIntOf,pure_bind,Sem.run_bind,hT.underlying,Result.andThen_ok,Instr.sureAddr,Sem.run_pure,if_pos jM,hF.sizeOf,mR]
  ·rename_i ei cells off he
   have hF:=hE e _ he
   cases h
   cases hx with
   |rL c e1 e2 =>
    refine⟨_,?_,.rL c e1 e2,rfl⟩
    simp only[Instr.indexAt,asIntOf,pure_bind,Sem.run_bind,hT.underlying,Result.andThen_ok,Instr.sureAddr,Sem.run_pure,if_pos jM,hF.sizeOf,mR,Nat.add_assoc]
  ·cases h
 ·rename_i e _ _ _ k i ht
  have hT:=hE t _ ht
  cases jl
  have run:∀ b o (len cap:Nat) (ei:TI),E.ty e=some ei→0≤i∧i < len→(Instr.indexAt t (.slice (some ⟨b,o,none⟩) len cap) (.int k i)).run E.P w=.ok (.pointer (some ⟨b,o+i.toNat * ei.size,none⟩)) w:=fun b o len cap ei he hb=>by
   have hF:=hE e _ he
   simp only[Instr.indexAt,asIntOf,pure_bind,Sem.run_bind,hT.underlying,Result.andThen_ok,Sem.run_pure,if_pos hb,hF.sizeOf,mR]
  split at h
  ·rename_i ei sz elems tok he
   split at h
   ·rename_i Ch
    cases h
    obtain⟨h0,h1⟩:0≤i∧i < elems.length:=jM
    obtain⟨b,o,cap,rfl,hr⟩:=qu hx (i:=i.toNat) (by omega)
    exact⟨_,run b o _ cap ei he ⟨h0,h1⟩,by rw[← Ch];exact hr,rfl⟩
   ·cases h
  ·rename_i ei sz elems he
   split at h
   ·rename_i Ch
    cases h
    obtain⟨h0,h1⟩:0≤i∧i < elems.length:=jM
    cases hx with
    |Jt=>simp at h1;omega
    |xA hx =>
     obtain⟨b,o,cap,rfl,hr⟩:=qu hx (i:=i.toNat) (by omega)
     exact⟨_,run b o _ cap ei he ⟨h0,h1⟩,by rw[← Ch];exact hr,rfl⟩
   ·cases h
  ·rename_i ei id off len sz he
   split at h
   ·rename_i Ch
    cases h
    cases hx with
    |Fk e1 e2 e3=>exact⟨_,run _ _ _ _ ei he jM,by rw[← Ch];exact .ptr e1,rfl⟩
    |Ml=>simp at jM;omega
   ·cases h
  ·cases h
 ·cases h
def OC (E:Env)(t:TypeId)(x ix:AV):Option my :=
 match E.ty t,x,ix with
 |some ⟨.array n e,_,_,_⟩,.agg cells,.v (.int _ i) =>
  match E.ty e,LM E e cells (i.toNat * ((E.ty e).map (·.size)).getD 0) with
  |some _,some r=>some { r:=r,ob:=0≤i∧i < n }
  |_,_=>none
 |some ⟨.string,_,_,_⟩,.v (.string s),.v (.int _ i)=>some { r:=.v (.int .u8 (s.data.toList.getD i.toNat 0).toNat),ob:=0≤i∧i < s.data.toList.length }
 |_,_,_=>none
theorem KL {E:Env}(hE:E.Ok){g:Gh}{t:TypeId}{x ix:AV}{vx vi:Value}(hx:aF g x vx)(jl:aF g ix vi){res:my}(h:OC E t x ix=some res)(jM:res.ob)(w:World) :
  ∃ v,(Instr.index t vx vi).run E.P w=.ok v w∧aF g res.r v∧res.U=[]:=by
 unfold OC at h
 split at h
 ·rename_i n e _ _ _ cells k i ht
  have hT:=hE t _ ht
  cases jl
  split at h
  ·rename_i ei r he hp
   have hF:=hE e _ he
   cases h
   cases hx with
   |agg e1 e2 =>
    rename_i cs
    obtain⟨v,hv,hr⟩:=AP hE (cs:=cs) (cells:=cells) ⟨by simpa using e1,fun k x c a b=>e2 k x c a (by simpa using b)⟩ hp w
    refine⟨v,?_,hr,rfl⟩
    simp only[he,Option.map_some,Option.getD_some]at hv
    simp only[Instr.index,asIntOf,pure_bind,Sem.run_bind,hT.underlying,Result.andThen_ok,if_pos jM,hF.sizeOf,hv]
  ·cases h
 ·rename_i _ _ _ s k i ht
  have hT:=hE t _ ht
  cases jl;cases hx;cases h
  obtain⟨h0,h1⟩:0≤i∧i < s.data.toList.length:=jM
  refine⟨_,?_,.v _,rfl⟩
  have nH:i.toNat < s.size:=by simp at h1;omega
  have hb:s[i.toNat]?=some (s.data.toList.getD i.toNat 0):=by
   rw[getElem?_pos s i.toNat nH]
   congr 1
   have:i.toNat < s.data.size:=by rw[ByteArray.size_data];exact nH
   simp only[List.getD,Array.getElem?_toList,Array.getElem?_eq_getElem this,Option.getD_some]
   rfl
  simp only[Instr.index,asIntOf,pure_bind,Sem.run_bind,hT.underlying,Result.andThen_ok,if_pos h0,hb,Sem.run_pure]
 ·cases h
def RF (x:AV)(k:Nat):Option AV :=
 match x with
 |.jE l=>l[k]?
 |_=>none
theorem VX {P:Program}{g:Gh}{x r:AV}{vx:Value}{k:Nat}(hx:aF g x vx)(h:RF x k=some r)(w:World) :
  ∃ v,(Instr.extract vx k).run P w=.ok v w∧aF g r v:=by
 unfold RF at h
 split at h
 ·cases hx with
  |jE e1 e2 =>
   rename_i l cs
   obtain⟨c,h1,h2⟩:=cW.get (cs:=cs.toList) ⟨by simpa using e1,fun k x c a b=>e2 k x c a (by simpa using b)⟩ h
   exact⟨c,by simp[Instr.extract,show cs[k]?=some c by simpa using h1],h2⟩
 ·cases h
def OD (E:Env)(t:TypeId)(x:AV):Option Nat :=
 match E.ty t,x with
 |some ⟨.string,_,_,_⟩,.v (.string s)=>some s.data.toList.length
 |some ⟨.slice _,_,_,_⟩,.sl _ elems _|some ⟨.slice _,_,_,_⟩,.xA _ elems=>some elems.length
 |some ⟨.slice _,_,_,_⟩,.Fk _ _ len _=>some len
 |some ⟨.slice _,_,_,_⟩,.v (.slice none 0 _)=>some 0
 |some ⟨.array n _,_,_,_⟩,_=>some n
 |_,_=>none
theorem Bt {E:Env}(hE:E.Ok){g:Gh}{t:TypeId}{x:AV}{vx:Value}(hx:aF g x vx){n:Nat}(h:OD E t x=some n)(ty:TypeId)(w:World) :
  (Builtin.len_ #[t] ty #[vx]).run E.P w=.ok (.int .i64 n) w:=by
 unfold OD at h
 split at h
 ·rename_i _ _ _ s ht
  have hT:=hE t _ ht
  cases hx;cases h
  simp[Builtin.len_,hT.underlying,goInt]
 ·rename_i _ _ _ _ _ elems _ ht
  have hT:=hE t _ ht
  cases h
  cases hx with
  |sl c e1=>subst e1;simp[Builtin.len_,hT.underlying,goInt]
 ·rename_i _ _ _ _ _ elems ht
  have hT:=hE t _ ht
  cases h
  cases hx with
  |Jt=>simp[Builtin.len_,hT.underlying,goInt]
  |xA hx =>
   cases hx with
   |sl c e1=>subst e1;simp[Builtin.len_,hT.underlying,goInt]
 ·rename_i _ _ _ _ _ _ _ _ ht
  have hT:=hE t _ ht
  cases h
  cases hx with
  |Fk e1 e2 e3=>simp[Builtin.len_,hT.underlying,goInt]
  |Ml=>simp[Builtin.len_,hT.underlying,goInt]
 ·rename_i _ _ _ _ _ ht
  have hT:=hE t _ ht
  cases h;cases hx
  simp[Builtin.len_,hT.underlying,goInt]
 ·rename_i n' _ _ _ _ ht
  have hT:=hE t _ ht
  cases h
  simp[Builtin.len_,hT.underlying,goInt]
 ·cases h
end Go.Ev
