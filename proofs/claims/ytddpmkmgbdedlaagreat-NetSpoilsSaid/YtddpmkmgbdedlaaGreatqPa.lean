/-
Nets whose messages' bytes stand in the pool: what waits,as a list.
-/
import Derived.Test.YtddpmkmgbdedlaaGreatqWv
import Derived.KernelRfl
set_option linter.unusedVariables false
set_option linter.unusedSimpArgs false
set_option maxRecDepth 100000
namespace Go.Proofs.YtddpmkmgbdedlaaGreat
open Go Go.Ev
abbrev fV:=List (Option (List Int))
section
variable {N:Nat}
theorem mP {α:Type} (d:α) {l:List α} {i:Nat} (h:i < l.length):l.getD i d=l[i]:=by simp [List.getD,List.getElem?_eq_getElem h]
theorem aCH {α:Type} {ms:List (Option α)} {j:Nat} (h:jE ms j=true):1≤j∧j≤ms.length:=by
 unfold jE at h
 obtain ⟨l,hl⟩:=Option.isSome_iff_exists.1 h
 obtain ⟨i,rfl,hi⟩:=aAE hl
 have:=(List.getElem?_eq_some_iff.1 hi).1
 omega
theorem aVy {α:Type} (ms:List (Option α)) (j:Nat) (x:Option α):(dC ms j x).length=ms.length:=by
 cases j<;>simp [dC]
theorem aVz {α:Type} {ms:List (Option α)} {j k:Nat} (x:Option α) (e:List (Option α)) (hk:jE ms k=true) (hne:k≠j):fL (dC ms j x++e) k=fL ms k:=by
 have hp:=aCH hk
 obtain ⟨i,rfl⟩:∃ i,k=i+1:=⟨k - 1,by omega⟩
 have hl:=aVy ms j x
 simp only [fL]
 rw [List.getElem?_append_left (by omega)]
 cases j with
 | zero=>rfl
 | succ j=>simp only [dC]; rw [List.getElem?_set_ne (by omega)]
theorem aVA {α:Type} (ms:List (Option α)) (c:Option α):fL (ms++[c]) (ms.length+1)=c:=by simp [fL]
theorem aVB {α:Type} {ms:List (Option α)} {j:Nat} (x:Option α) (h:jE ms j=true):fL (dC ms j x) j=x:=by
 have hp:=aCH h
 obtain ⟨i,rfl⟩:∃ i,j=i+1:=⟨j - 1,by omega⟩
 simp only [fL,dC]
 rw [List.getElem?_set_self (by omega)]
def vb (ms:fV) (h:Hd):List Int:=((fM ms h.j).drop h.o).take h.n
structure HOk (ms:fV) (h:Hd):Prop where
 has:jE ms h.j=true
 fit:h.o+h.n≤(fM ms h.j).length
def vs (ms:fV) (x:bU):cC:=⟨x.Number,x.From,x.To,vb ms x.Data⟩
theorem HOk.len {ms:fV} {h:Hd} (k:HOk ms h):(vb ms h).length=h.n:=by
 have:=k.fit
 unfold vb; simp; omega
theorem HOk.old {ms:fV} {h:Hd} (k:HOk ms h) {j:Nat} (x:Option (List Int)) (e:fV) (hne:h.j≠j):HOk (dC ms j x++e) h∧vb (dC ms j x++e) h=vb ms h:=by
 have h1:=aVz x e k.has hne
 have h2:fM (dC ms j x++e) h.j=fM ms h.j:=by unfold fM; rw [h1]
 exact ⟨⟨by unfold jE; rw [h1]; exact k.has,by rw [h2]; exact k.fit⟩,by unfold vb; rw [h2]⟩
structure W (ms:fV) (l:List bU) (L:List cC):Prop where
 ok:∀ x∈l,HOk ms x.Data
 dis:(l.map (·.Data.j)).Nodup
 eq:l.map (vs ms)=L
section
variable {ms:fV} {l:List bU} {L:List cC}
theorem W.len (h:W ms l L):l.length=L.length:=by rw [← h.eq]; simp
theorem W.get (h:W ms l L) {i:Nat} (hi:i < l.length):L.getD i default=vs ms (l.getD i default)∧HOk ms (l.getD i default).Data:=by
 have hl:=h.len
 rw [mP _ hi,mP _ (show i < L.length by omega)]
 have:=h.eq
 subst this
 exact ⟨by simp,h.ok _ (List.getElem_mem _)⟩
theorem W.other (h:W ms l L) {j:Nat} (x:Option (List Int)) (e:fV) (hne:∀ y∈l,y.Data.j≠j):W (dC ms j x++e) l L:=by
 refine ⟨fun y hy=>((h.ok y hy).old x e (hne y hy)).1,h.dis,?_⟩
 rw [← h.eq]
 refine List.map_congr_left fun y hy=>?_
 unfold vs
 rw [((h.ok y hy).old x e (hne y hy)).2]
theorem W.more (h:W ms l L) (e:fV):W (ms++e) l L:=h.other (j:=0) none e fun y hy=>by have:=aCH (h.ok y hy).has; omega
theorem W.fresh (h:W ms l L):∀ y∈l,y.Data.j≠ms.length+1:=fun y hy=>by have:=aCH (h.ok y hy).has; omega
theorem W.sub (h:W ms l L) {l':List bU} (hs:l'.Sublist l):W ms l' (l'.map (vs ms)) :=
 ⟨fun y hy=>h.ok y (hs.subset hy),h.dis.sublist (hs.map _),rfl⟩
theorem W.snoc (h:W ms l L) {x:bU} (hx:HOk ms x.Data) (hn:∀ y∈l,y.Data.j≠x.Data.j):W ms (l++[x]) (L++[vs ms x]):=by
 refine ⟨fun y hy=>?_,?_,by rw [← h.eq]; simp⟩
 ·rcases List.mem_append.1 hy with hy | hy
  ·exact h.ok y hy
  ·simp at hy; subst hy; exact hx
 ·rw [List.map_append,List.nodup_append]
  refine ⟨h.dis,by simp,fun a ha b hb=>?_⟩
  obtain ⟨z,hz,rfl⟩:=List.mem_map.1 ha
  simp at hb; subst hb
  exact hn z hz
theorem W.erase (h:W ms l L) (i:Nat):W ms (l.eraseIdx i) (L.eraseIdx i):=by
 have:=h.sub (List.eraseIdx_sublist l i)
 rw [← h.eq,List.eraseIdx_eq_take_drop_succ (List.map _ _),← List.map_take,← List.map_drop,← List.map_append,← List.eraseIdx_eq_take_drop_succ]
 exact this
theorem W.erase_ne (h:W ms l L) {i:Nat} (hi:i < l.length):∀ y∈l.eraseIdx i,y.Data.j≠(l.getD i default).Data.j:=by
 intro y hy
 rw [mP _ hi]
 obtain ⟨k,hk,e⟩:=List.mem_eraseIdx_iff_getElem.1 hy
 obtain ⟨hki,e⟩:=e
 have hd:=List.nodup_iff_pairwise_ne.1 h.dis
 have hq:=List.pairwise_iff_getElem.1 hd
 intro hj
 have:k≠i:=by assumption
 rcases Nat.lt_or_gt_of_ne this with hlt | hlt
 ·exact hq k i (by simpa using hk) (by simpa using hi) hlt (by simpa [e] using hj)
 ·exact hq i k (by simpa using hi) (by simpa using hk) hlt (by simpa [e] using hj.symm)
end
end
end Go.Proofs.YtddpmkmgbdedlaaGreat
