/-
A body cut in two: the first part's run leaves a state told by a shape,the second part is run from that shape once.
-/
import Derived.Test.YtddpmkmgbdedlaaGreatqTvU
set_option linter.unusedVariables false
namespace Go.Ev
open Go
def jV:Code→List Bool→List Code
 | .seq a b,true :: p=>a :: jV b p
 | .seq a b,false :: p=>jV a p
 | _,_=>[]
def eZ:Code→List Bool→List Code
 | .seq a b,true :: p=>eZ b p
 | .seq a b,false :: p=>eZ a p++[b]
 | c,_=>[c]
section
variable {E:Env} {k0:Nat}
theorem aOq {Q:Exit→St→Prop} {e:Exit} (he:e≠.normal) (t:List cU) (st:St):∀ l:List Code,bK E k0 (l.map cU.code++t) Q e st=bK E k0 t Q e st
 | []=>rfl
 | c :: l => by
  rw [← aOq he t st l]
  cases e with
  | normal=>exact absurd rfl he
  | _=>rfl
theorem aKl {Q:Exit→St→Prop}:∀ (p:List Bool) (c:Code) (t:List cU) (st:St),bK E k0 ((jV c p++eZ c p).map cU.code++t) Q .normal st→bK E k0 (.code c :: t) Q .normal st
 | [],c,t,st,h=>by cases c<;>exact h
 | true :: p, .seq a b, t, st, h => by
  refine AWp.seq (AWp.mono (fun e s hs=>?_) (show AWp E k0 a st (bK E k0 ((jV b p++eZ b p).map cU.code++t) Q) from h))
  cases e with
  | normal=>exact aKl p b t s hs
  | _=>rw [aOq (by intro h; cases h)] at hs; exact hs
 | false :: p, .seq a b, t, st, h => by
  have h1:bK E k0 ((jV a p++eZ a p).map cU.code++(.code b :: t)) Q .normal st:=by
   have e:(jV (.seq a b) (false :: p)++eZ (.seq a b) (false :: p)).map cU.code++t=(jV a p++eZ a p).map cU.code++(.code b :: t):=by
    simp [jV,eZ]
   rw [← e]; exact h
  refine AWp.seq (AWp.mono (fun e s hs=>?_) (show AWp E k0 a st (bK E k0 (.code b :: t) Q) from aKl p a (.code b :: t) st h1))
  cases e with
  | normal=>exact hs
  | _=>exact hs
 | _ :: _,.skip,t,st,h | _ :: _,.exit _,t,st,h | _ :: _,.ret,t,st,h | _ :: _,.label _,t,st,h | _ :: _,.region _ _ _,t,st,h | _ :: _,.cond _ _ _,t,st,h | _ :: _,.block _ _,t,st,h | _ :: _,.loop _,t,st,h=>h
 | _ :: _,.scope _,t,st,h | _ :: _,.rangeFunc _ _ _ _,t,st,h=>h
 | _ :: _,.goto _,t,st,h | _ :: _,.refuse _,t,st,h=>h
end
theorem aKm {S:Array Tmp→Code→Code→Prop}:∀ (p:List Bool) (c:Code),COk S c→(∀ x∈jV c p,COk S x)∧∀ x∈eZ c p,COk S x
 | [], c, h => by
  have e1:jV c []=[]:=by cases c<;>rfl
  have e2:eZ c []=[c]:=by cases c<;>rfl
  rw [e1,e2]
  exact ⟨fun x hx=>(by cases hx),fun x hx=>by rw [List.mem_singleton.1 hx]; exact h⟩
 | true :: p, .seq a b, h => by
  obtain ⟨h1,h2⟩:=aKm p b h.seq.2
  exact ⟨fun x hx=>(List.mem_cons.1 hx).elim (fun e=>by rw [e]; exact h.seq.1) (h1 x),h2⟩
 | false :: p, .seq a b, h => by
  obtain ⟨h1,h2⟩:=aKm p a h.seq.1
  exact ⟨h1,fun x hx=>(List.mem_append.1 hx).elim (h2 x) fun e=>by rw [List.mem_singleton.1 e]; exact h.seq.2⟩
 | _ :: _,.skip,h | _ :: _,.exit _,h | _ :: _,.ret,h | _ :: _,.label _,h | _ :: _,.region _ _ _,h | _ :: _,.cond _ _ _,h | _ :: _,.block _ _,h | _ :: _,.loop _,h=>⟨fun x hx=>(by cases hx),fun x hx=>by rw [List.mem_singleton.1 hx]; exact h⟩
 | _ :: _,.scope _,h | _ :: _,.rangeFunc _ _ _ _,h | _ :: _,.goto _,h | _ :: _,.refuse _,h=>⟨fun x hx=>(by cases hx),fun x hx=>by rw [List.mem_singleton.1 hx]; exact h⟩
variable {τ:Nat→Type}
theorem aKn {S:Array Tmp→Code→Code→Prop}:∀ l:List Code,(∀ x∈l,COk S x)→TodoOk S (l.map cU.code)
 | [],_=>trivial
 | c :: l,h=>⟨h c (by simp),aKn l fun x hx=>h x (by simp [hx])⟩
def cutK {X:Type} (D:Dat τ) (lp:Lp τ) (K:Exit→TSt τ→Option X) (e:Exit) (st:TSt τ):Option (lp.S ⊕ X) :=
 match e with
 | .normal=>(match lp.dec D.D.C D.k0 st with | some s=>some (.inl s) | none=>none)
 | .ret=>(match K .ret st with | some x=>some (.inr x) | none=>none)
 | _=>none
theorem aXB {D:Dat τ} (hD:D.Ok) {N n:Nat} {X:Type} {lp:Lp τ} {code:Code} {p:List Bool} {st:TSt τ} {K:Exit→TSt τ→Option X} {Q:Exit→St→Prop} {x:X} (hg:Gd st) (hok:COk (kU D) code) (h0:st.dt=[]) (h0':st.dh=[])
  (hK:∀ e st',K e st'=some x→Gd st'→Q e (aV D.D.C st')) (hne:eZ code p≠[]) (hc:∀ s,(lp.head D.D.C st s).t.all (fun y=>!y.isCnd)=true) {z:lp.S ⊕ X}
  (h1:run D N n ((jV code p).map cU.code) st (cutK D lp K)=some z)
  (h2:(match z with | .inl s=>run D N n ((eZ code p).map cU.code) (lp.head D.D.C st s) K | .inr y=>some y)=some x) :
  bK D.D.E D.k0 [.code code] Q .normal (aV D.D.C st):=by
 obtain ⟨ok1,ok2⟩:=aKm p code hok
 refine aKl p code [] _ ?_
 rw [List.append_nil,List.map_append]
 obtain ⟨q,qs,hq⟩:∃ q qs,eZ code p=q :: qs:=by
  cases h:eZ code p with
  | nil=>exact absurd h hne
  | cons q qs=>exact ⟨q,qs,rfl⟩
 have key:=aJ8 hD (N:=N) n ((jV code p).map cU.code) st (cutK D lp K) (bK D.D.E D.k0 ((eZ code p).map cU.code) Q) (x:=z) (fun e st' hk hg' hf=>?_) hg (aKn _ ok1) h1
 ·have hcat:∀ (l:List Code) (e:Exit) (s:St),bK D.D.E D.k0 (l.map cU.code) (bK D.D.E D.k0 ((eZ code p).map cU.code) Q) e s→bK D.D.E D.k0 (l.map cU.code++(eZ code p).map cU.code) Q e s:=by
   intro l
   induction l with
   | nil=>exact fun e s h=>h
   | cons c l ih =>
    intro e s h
    cases e with
    | normal=>exact AWp.mono (fun e s=>ih e s) h
    | _=>exact ih _ _ h
  exact hcat _ _ _ key
 ·cases e with
  | normal =>
   simp only [cutK] at hk
   split at hk
   ·rename_i s hs
    cases hk
    simp only at h2
    have hgh:Gd (lp.head D.D.C st s):=by
     refine ⟨fun k d w b y hy=>?_,fun g hg=>by cases hg⟩
     rcases aAz (t:=(lp.head D.D.C st s).t) (k:=k) with hm | hm
     ·have:=List.all_eq_true.1 (hc s) _ hm
      rw [hy] at this; cases this
     ·rw [hm] at hy; cases hy
    have hs2:=aJ8 hD (N:=N) n ((eZ code p).map cU.code) (lp.head D.D.C st s) K Q (fun e st2 hk2 hg2 _=>hK e st2 hk2 hg2) hgh (aKn _ ok2) h2
    obtain ⟨θ,hθ⟩:=Lp.ren hD.ok.C (base:=st) hs hf.len (fun k _ hnd=>(hf.dt k hnd).2) (fun i _ hnd=>(hf.dh i hnd).2)
    rw [hq] at hs2 ⊢
    exact AWp.ren hθ hs2
   ·cases hk
  | ret =>
   simp only [cutK] at hk
   split at hk
   ·rename_i y hy
    cases hk
    simp only [Option.some.injEq] at h2
    subst h2
    exact tF (hK .ret st' hy hg')
   ·cases hk
  | _=>cases hk
theorem aXC {D:Dat τ} (hD:D.Ok) {f:FuncId} {fn:Func} {code:Code} (c:Con τ) (to:c.ret.T τ→ESh.Ts τ c.L'→c.R) (ta:Option ((A:Alt τ c.R)×(A.ret.T τ→ESh.Ts τ A.L'→c.R))) (hto:∀ a b,c.of (to a b)=(a,b)) (hta:c.alt=ta.map (·.1))
  (hs1:∀ A t,ta=some ⟨A,t⟩→(∀ a b,c.sel (to a b)=false)∧(∀ a b,c.sel (t a b)=true)∧∀ a b,A.of (t a b)=(a,b)) (n:Nat) (p:List Bool) (lp:Lp τ)
  (F1:Nat→Sh.Ts τ c.args→ESh.Ts τ c.L→Option (lp.S ⊕ c.R)) (F2:Nat→Sh.Ts τ c.args→ESh.Ts τ c.L→lp.S→Option c.R)
  (hF:∀ N a b,c.F N a b=(F1 N a b).bind fun z=>match z with | .inl s=>F2 N a b s | .inr r=>some r)
  (hf:D.D.E.P.funcs[f]?=some fn) (hb:fn.body=some code)
  (hname : (fn.name == "runtime.NumGoroutine") = false) (hok : eQ code = true) (hk : D.k0 = c.L.length) (hne : (eZ code p).isEmpty = false)
  (hc:∀ a b s,(lp.head D.D.C (iK D.D.C fn.ntmps c a b) s).t.all (fun y=>!y.isCnd)=true)
  (h1:∀ N a b,run D N n ((jV code p).map cU.code) (iK D.D.C fn.ntmps c a b) (cutK D lp (oE D.D c to ta D.k0 fn.results.toList))=F1 N a b)
  (h2:∀ N a b s,run D N n ((eZ code p).map cU.code) (lp.head D.D.C (iK D.D.C fn.ntmps c a b) s) (oE D.D c to ta D.k0 fn.results.toList)=F2 N a b s) (hsub:jT (kU D) code:=by exact lW (by kernel_rfl)) (hy:Nat.beq f kR=false:=by rfl) (hro:D.D.E.ro=none:=by rfl) (hxe:c.ext=false:=by rfl):aF D.D.E D.D.C f c:=by
 intro N a b r hr
 rw [hy,hxe]
 show FnSpec D.D.E f _ _ _ _
 rw [hF] at hr
 obtain ⟨z,hz,hr⟩:=Option.bind_eq_some_iff.1 hr
 rw [← h1] at hz
 have hg:Gd (iK D.D.C fn.ntmps c a b):=by
  refine ⟨fun k d w q y e=>?_,fun g hg=>by cases hg⟩
  rcases aAz (t:=(iK D.D.C fn.ntmps c a b).t) (k:=k) with hm | hm
  ·rw [e] at hm
   rcases List.mem_append.1 hm with h1 | h1
   ·exact absurd rfl (aAA hD.ok.C c.args a _ h1 d w q y)
   ·have:=List.eq_of_mem_replicate h1; cases this
  ·rw [e] at hm; cases hm
 have hs:=aXB hD (N:=N) (n:=n) (lp:=lp) (p:=p) (K:=oE D.D c to ta D.k0 fn.results.toList) (x:=r)
  (Q:=Ends D.D.E D.k0 fn.results.toList ((c.out D.D.C r).1.den D.D.C) ((c.out D.D.C r).2.map (TEnt.den D.D.C))) hg ⟨hok,hsub⟩ rfl rfl (fun e st' hk' _=>?_) (fun h=>by rw [h] at hne; cases hne) (hc a b) hz ?_
 ·refine FnSpec.intro hD.good hro hf hb hname ?_
  rw [List.length_map,iZ,← hk]
  have he:aV D.D.C (iK D.D.C fn.ntmps c a b)=⟨TV.denL D.D.C (Sh.encs D.D.C c.args a)++List.replicate (fn.ntmps - (TV.denL D.D.C (Sh.encs D.D.C c.args a)).length) .junk,(ESh.encs D.D.C c.L b).map (TEnt.den D.D.C)⟩:=by
   have hmap:∀ l:List (TV τ),(∀ x∈l,∀ d w b y,x≠TV.cnd d w b y)→l.map (cO D.D.C)=l.map (TV.den D.D.C):=fun l hl=>List.map_congr_left fun x hx=>by
    cases x with
    | cnd d w b y=>exact absurd rfl (hl _ hx d w b y)
    | _=>rfl
   simp only [aV,iK,List.map_append,List.map_replicate,kP,List.length_map,aKa]
   rw [hmap _ (fun x hx=>aAA hD.ok.C c.args a x hx)]
   rfl
  rw [he] at hs
  simp only [bK] at hs
  exact hs
 ·unfold oE at hk'
  cases e with
  | normal=>exact aDy hD.ok hto hta hs1 hk'
  | ret=>exact aDy hD.ok hto hta hs1 hk'
  | _=>cases hk'
 ·cases z with
  | inl s=>simp only at hr ⊢; rw [h2]; exact hr
  | inr y=>exact hr
end Go.Ev
