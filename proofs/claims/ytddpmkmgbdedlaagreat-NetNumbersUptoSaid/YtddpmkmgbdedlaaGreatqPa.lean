/-
Nets whose messages' bytes stand in the aX: what waits,as a list.
-/
import Derived.Test.YtddpmkmgbdedlaaGreatqWv
import Derived.KernelRfl
set_option linter.unusedVariables false
set_option linter.unusedSimpArgs false
set_option maxRecDepth 100000
namespace Go.Proofs.YtddpmkmgbdedlaaGreat
open Go Go.Ev
abbrev Oo:=List (Option (List Int))
section
variable {N:Nat}
theorem vE {α:Type}(d:α){l:List α}{i:Nat}(h:i < l.length):l.getD i d=l[i]:=by simp[List.getD,List.getElem?_eq_getElem h]
theorem HC {α:Type}{ms:List (Option α)}{j:Nat}(h:EI ms j=true):1≤j∧j≤ms.length:=by
 unfold EI at h
 obtain⟨l,hl⟩:=Option.isSome_iff_exists.1 h
 obtain⟨i,rfl,hi⟩:=Qr hl
 have:=(List.getElem?_eq_some_iff.1 hi).1
 omega
theorem aBc {α:Type}(ms:List (Option α))(j:Nat)(x:Option α):(As ms j x).length=ms.length:=by
 cases j<;>simp[As]
theorem aA5 {α:Type}{ms:List (Option α)}{j k:Nat}(x:Option α)(e:List (Option α))(hk:EI ms k=true)(dF:k≠j):CE (As ms j x++e) k=CE ms k:=by
 have hp:=HC hk
 obtain⟨i,rfl⟩:∃ i,k=i+1:=⟨k - 1,by omega⟩
 have hl:=aBc ms j x
 simp only[CE]
 rw[List.getElem?_append_left (by omega)]
 cases j with
 |zero=>rfl
 |succ j=>simp only[As];rw[List.getElem?_set_ne (by omega)]
theorem aA4 {α:Type}(ms:List (Option α))(c:Option α):CE (ms++[c]) (ms.length+1)=c:=by simp[CE]
theorem ur {α:Type}{ms:List (Option α)}{j:Nat}(x:Option α)(h:EI ms j=true):CE (As ms j x) j=x:=by
 have hp:=HC h
 obtain⟨i,rfl⟩:∃ i,j=i+1:=⟨j - 1,by omega⟩
 simp only[CE,As]
 rw[List.getElem?_set_self (by omega)]
theorem I5 {α:Type}{ms:List (Option (List α))}{j:Nat}(h:EI ms j=true):As ms j (some (Kx ms j))=ms:=by
 have hp:=HC h
 obtain⟨i,rfl⟩:∃ i,j=i+1:=⟨j - 1,by omega⟩
 unfold EI at h
 obtain⟨l,hl⟩:=Option.isSome_iff_exists.1 h
 have hc:Kx ms (i+1)=l:=by unfold Kx;rw[hl];rfl
 rw[hc]
 obtain⟨k,hk,he⟩:=Qr hl
 obtain rfl:k=i:=by omega
 simp only[As]
 apply List.ext_getElem?
 intro n
 by_cases hn:k=n
 ·subst hn;rw[List.getElem?_set_self (by omega)];exact he.symm
 ·rw[List.getElem?_set_ne hn]
def vb (ms:Oo)(h:Hd):List Int:=((Kx ms h.j).drop h.o).take h.n
structure fu (ms:Oo) (h:Hd):Prop where
 has:EI ms h.j=true
 fit:h.o+h.n≤(Kx ms h.j).length
def vs (ms:Oo)(x:bJ):eW:=⟨x.Number,x.aS,x.To,vb ms x.Data⟩
theorem fu.len {ms:Oo}{h:Hd}(k:fu ms h):(vb ms h).length=h.n:=by
 have:=k.fit
 unfold vb;simp;omega
theorem fu.old {ms:Oo}{h:Hd}(k:fu ms h){j:Nat}(x:Option (List Int))(e:Oo)(dF:h.j≠j):fu (As ms j x++e) h∧vb (As ms j x++e) h=vb ms h:=by
 have h1:=aA5 x e k.has dF
 have h2:Kx (As ms j x++e) h.j=Kx ms h.j:=by unfold Kx;rw[h1]
 exact⟨⟨by unfold EI;rw[h1];exact k.has,by rw[h2];exact k.fit⟩,by unfold vb;rw[h2]⟩
structure W (ms:Oo) (l:List bJ) (L:List eW):Prop where
 ok:∀ x∈l,fu ms x.Data
 ij:(l.map (·.Data.j)).Nodup
 eq:l.map (vs ms)=L
section
variable {ms:Oo} {l:List bJ} {L:List eW}
theorem W.len (h:W ms l L):l.length=L.length:=by rw[← h.eq];simp
theorem W.get (h:W ms l L){i:Nat}(hi:i < l.length):L.getD i default=vs ms (l.getD i default)∧fu ms (l.getD i default).Data:=by
 have hl:=h.len
 rw[vE _ hi,vE _ (show i < L.length by omega)]
 have:=h.eq
 subst this
 exact⟨by simp,h.ok _ (List.getElem_mem _)⟩
theorem W.other (h:W ms l L){j:Nat}(x:Option (List Int))(e:Oo)(dF:∀ y∈l,y.Data.j≠j):W (As ms j x++e) l L:=by
 refine⟨fun y hy=>((h.ok y hy).old x e (dF y hy)).1,h.ij,?_⟩
 rw[← h.eq]
 refine List.map_congr_left fun y hy=>?_
 unfold vs
 rw[((h.ok y hy).old x e (dF y hy)).2]
theorem W.more (h:W ms l L)(e:Oo):W (ms++e) l L:=h.other (j:=0) none e fun y hy=>by have:=HC (h.ok y hy).has;omega
theorem W.fresh (h:W ms l L):∀ y∈l,y.Data.j≠ms.length+1:=fun y hy=>by have:=HC (h.ok y hy).has;omega
theorem W.sub (h:W ms l L){l':List bJ}(hs:l'.Sublist l):W ms l' (l'.map (vs ms)) :=
 ⟨fun y hy=>h.ok y (hs.subset hy),h.ij.sublist (hs.map _),rfl⟩
theorem W.snoc (h:W ms l L){x:bJ}(hx:fu ms x.Data)(hn:∀ y∈l,y.Data.j≠x.Data.j):W ms (l++[x]) (L++[vs ms x]):=by
 refine⟨fun y hy=>?_,?_,by rw[← h.eq];simp⟩
 ·rcases List.mem_append.1 hy with hy|hy
  ·exact h.ok y hy
  ·simp at hy;subst hy;exact hx
 ·rw[List.map_append,List.nodup_append]
  refine⟨h.ij,by simp,fun a ha b hb=>?_⟩
  obtain⟨z,hz,rfl⟩:=List.mem_map.1 ha
  simp at hb;subst hb
  exact hn z hz
theorem W.erase (h:W ms l L)(i:Nat):W ms (l.eraseIdx i) (L.eraseIdx i):=by
 have:=h.sub (List.eraseIdx_sublist l i)
 rw[← h.eq,List.eraseIdx_eq_take_drop_succ (List.map _ _),← List.map_take,← List.map_drop,← List.map_append,← List.eraseIdx_eq_take_drop_succ]
 exact this
theorem W.aAe (h:W ms l L){i:Nat}(hi:i < l.length):∀ y∈l.eraseIdx i,y.Data.j≠(l.getD i default).Data.j:=by
 intro y hy
 rw[vE _ hi]
 obtain⟨k,hk,e⟩:=List.mem_eraseIdx_iff_getElem.1 hy
 obtain⟨DF,e⟩:=e
 have hd:=List.nodup_iff_pairwise_ne.1 h.ij
 have hq:=List.pairwise_iff_getElem.1 hd
 intro hj
 have:k≠i:=by assumption
 rcases Nat.lt_or_gt_of_ne this with nH|nH
 ·exact hq k i (by simpa using hk) (by simpa using hi) nH (by simpa[e] using hj)
 ·exact hq i k (by simpa using hi) (by simpa using hk) nH (by simpa[e] using hj.symm)
end
end
end Go.Proofs.YtddpmkmgbdedlaaGreat
