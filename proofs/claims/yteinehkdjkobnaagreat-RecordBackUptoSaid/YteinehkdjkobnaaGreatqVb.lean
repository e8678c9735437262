/-
What is read is what was written: parts,operations,lists,entries.
-/
import Derived.Test.YteinehkdjkobnaaGreatqVa
set_option linter.unusedVariables false
set_option linter.unusedSimpArgs false
namespace Go.Proofs.YteinehkdjkobnaaGreat
open Go Go.Ev
structure SmOk (g : Int → Int) : Prop where
  inb : ∀ n,-1 ≤ g n → g n = n
  of : ∀ n,-1 ≤ n ∧ n ≤ 2147483647 → g n = n
theorem wrap32' {n : Int} (h : -1 ≤ n ∧ n ≤ 2147483647) : IntKind.i32.wrap n = n := by
  have h1 := h.1; have h2 := h.2
  simp only [IntKind.wrap,IntKind.bits,IntKind.signed]
  first | (simp; omega) | (split <;> omega)
theorem sm_ok : SmOk sm := by
  refine ⟨fun n h => ?_,fun n h => ?_⟩
  · unfold sm at h ⊢
    split
    · rfl
    · rename_i hx; rw [if_neg hx] at h; omega
  · unfold sm; rw [wrap32' h,z2p (by omega) (by omega),if_pos rfl]
theorem SmOk.h7 {g : Int → Int} (h : SmOk g) : ∀ n,-1 ≤ g n ∧ g n ≤ 7 → g n = n := fun n hn => h.inb n hn.1
theorem SmOk.h7' {g : Int → Int} (h : SmOk g) : ∀ n,-1 ≤ n ∧ n ≤ 7 → g n = n := fun n hn => h.of n ⟨hn.1,by omega⟩
section
variable {N : Nat} {B : List Int} {s : St} {g : Int → Int}
theorem z11y (hB : okB B) (h : okR B s) (he : (rdT s).2.1 = 0) : s.1 = 0 ∧ s.2 = pT (rdT s).1 ++ (rdT s).2.2 := by
  unfold rdT at he ⊢
  by_cases hs : s.1 = 0
  · rw [if_pos hs] at he ⊢
    have hb := (zj8 hB h).2
    obtain ⟨h1,h2⟩ := rB_one hb he
    refine ⟨hs,?_⟩
    have h3 : ∀ x ∈ (rB s.2).1,byteR x := fun x hx => hb x (by rw [h1]; simp [hx])
    simp only [pT,pB]
    rw [zpp h3]; exact h1
  · rw [if_neg hs] at he; exact absurd he hs
theorem zz2 {t : List UInt8} (ht : t.length ≤ 1048576) (rest : List Int) : rdT (0,pT t ++ rest) = (t,(0,rest)) := by
  unfold rdT pT pB
  rw [if_pos rfl]
  have := rB_back (b := zhq t) (by rw [zs6]; exact ht) rest
  rw [List.append_assoc] at this
  simp only [List.append_assoc]
  rw [this]
  simp only [z127]
theorem rdD_one (hB : okB B) (h : okR B s) (he : (rdD s).2.1 = 0) : s.1 = 0 ∧ s.2 = pB (rdD s).1 ++ (rdD s).2.2 ∧ byt (rdD s).1 := by
  unfold rdD at he ⊢
  by_cases hs : s.1 = 0
  · rw [if_pos hs] at he ⊢
    have hb := (zj8 hB h).2
    obtain ⟨h1,h2⟩ := rB_one hb he
    exact ⟨hs,h1,fun x hx => hb x (by rw [h1]; simp [hx])⟩
  · rw [if_neg hs] at he; exact absurd he hs
theorem rdD_back {t : List Int} (ht : t.length ≤ 1048576) (rest : List Int) : rdD (0,pB t ++ rest) = (t,(0,rest)) := by
  unfold rdD pB
  rw [if_pos rfl]
  have := rB_back ht rest
  simp only at this ⊢
  rw [this]
theorem rdO_one (hB : okB B) (h : okR B s) (he : (rdO id s).2.1 = 0) : s.1 = 0 ∧ s.2 = opB (rdO id s).1 ++ (rdO id s).2.2 := by
  have h1 := zr h
  have h2 := zr h1
  have h3 := zr h2
  have h4 := zr h3
  have h5 := zr h4
  have h6 := zw1 h5
  have h7 := zw1 h6
  unfold rdO at he ⊢
  simp only at he ⊢
  obtain ⟨e8,q8⟩ := z11y hB h7 he
  obtain ⟨e7,q7⟩ := z11y hB h6 e8
  obtain ⟨e6,q6⟩ := z11y hB h5 e7
  obtain ⟨e5,q5⟩ := z26 hB h4 e6
  obtain ⟨e4,q4⟩ := z26 hB h3 e5
  obtain ⟨e3,q3⟩ := z26 hB h2 e4
  obtain ⟨e2,q2⟩ := z26 hB h1 e3
  obtain ⟨e1,q1⟩ := z26 hB h e2
  refine ⟨e1,?_⟩
  simp only [opB,opC,id,List.map_cons,List.map_nil,List.flatten_append,List.flatten_cons,List.flatten_nil,List.append_nil,List.append_assoc]
  rw [← q8,← q7,← q6,← q5,← q4,← q3,← q2,← q1]
theorem rdO_back {o : GOp} (ho : MayOp o) (rest : List Int) : rdO id (0,opB o ++ rest) = (o,(0,rest)) := by
  obtain ⟨⟨a1,a2⟩,a3,a4,a5,a6,a7,a8⟩ := o
  obtain ⟨p1,p2,p3,p4,p5,p6,p7,p8⟩ := ho
  simp only at p1 p2 p3 p4 p5 p6 p7 p8
  have r1 : R64 a1 := ⟨by omega,by omega⟩
  have r2 : R64 a2 := ⟨by omega,by omega⟩
  have r3 : R64 a3 := ⟨by omega,by omega⟩
  have r4 : R64 a4 := ⟨by omega,by omega⟩
  have r5 : R64 a5 := ⟨by omega,by omega⟩
  simp only [opB,opC,List.map_cons,List.map_nil,List.flatten_append,List.flatten_cons,List.flatten_nil,List.append_nil,List.append_assoc]
  unfold rdO
  simp only [z19 r1,z19 r2,z19 r3,z19 r4,z19 r5,zz2 (t := a6) (by omega),zz2 (t := a7) (by omega),zz2 (t := a8) (by omega),id]
theorem z12y (hg : SmOk g) (hB : okB B) (h : okR B s) (hm : MayOp (rdO g s).1) (he : (rdO g s).2.1 = 0) : s.1 = 0 ∧ s.2 = opB (rdO g s).1 ++ (rdO g s).2.2 := by
  rw [rdO_id hg.h7 hm] at he ⊢; exact rdO_one hB h he
theorem z10r (hg : SmOk g) {o : GOp} (ho : MayOp o) (rest : List Int) : rdO g (0,opB o ++ rest) = (o,(0,rest)) := by
  have := rdO_back ho rest
  rw [rdO_of hg.h7' (by rw [this]; exact ho)]; exact this
theorem z11z {α : Type} {f : St → α × St} {C : α → List Int} {M : α → Prop} (hok : ∀ {s},okR B s → okR B (f s).2)
    (hone : ∀ {s},okR B s → M (f s).1 → (f s).2.1 = 0 → s.1 = 0 ∧ s.2 = C (f s).1 ++ (f s).2.2) :
    ∀ (n : Nat) (l : List α) (s : St),okR B s → (∀ x ∈ (rdL f n l s).1,M x) → (rdL f n l s).2.1 = 0 → s.1 = 0 ∧ ∃ l2,(rdL f n l s).1 = l ++ l2 ∧ l2.length = n ∧ s.2 = (l2.map C).flatten ++ (rdL f n l s).2.2
  | 0,l,s,h,hm,he => ⟨he,[],by rw [zth,List.append_nil],rfl,rfl⟩
  | n + 1,l,s,h,hm,he => by
    rw [zqz] at hm he ⊢
    by_cases hs : s.1 ≠ 0
    · rw [if_pos hs] at he; exact absurd he hs
    · rw [if_neg hs] at hm he ⊢
      obtain ⟨e1,l2,k1,k2,k3⟩ := z11z hok hone n _ _ (hok h) hm he
      have hx : M (f s).1 := hm _ (by rw [k1]; simp)
      obtain ⟨e0,k0⟩ := hone h hx e1
      refine ⟨e0,(f s).1 :: l2,by rw [k1]; simp,by simp [k2],?_⟩
      rw [k0,List.map_cons,List.flatten_cons,List.append_assoc,← k3]
theorem zz3 {α : Type} {f : St → α × St} {C : α → List Int} : ∀ (l2 l : List α) (rest : List Int),(∀ x ∈ l2,∀ r,f (0,C x ++ r) = (x,(0,r))) → rdL f l2.length l (0,(l2.map C).flatten ++ rest) = (l ++ l2,(0,rest))
  | [],l,rest,h => by simp [zth]
  | x :: l2,l,rest,h => by
    rw [List.length_cons,zqz,if_neg (by simp),List.map_cons,List.flatten_cons,List.append_assoc,h x (by simp)]
    rw [zz3 l2 _ rest fun y hy => h y (by simp [hy])]
    simp
theorem rdN_one (hB : okB B) (h : okR B s) (he : (rdN s).2.1 = 0) : s.1 = 0 ∧ s.2 = pI (rdN s).1 ++ (rdN s).2.2 := by
  unfold rdN at he ⊢
  simp only at he ⊢
  by_cases c : (rd1 s).2.1 = 0 ∧ ((rd1 s).1 < 0 ∨ 4096 < (rd1 s).1)
  · rw [if_pos c] at he; exact absurd he (show ¬ ((40 : Int) = 0) by decide)
  · rw [if_neg c] at he ⊢
    by_cases c2 : (rd1 s).2.1 ≠ 0
    · rw [if_pos c2] at he; exact absurd he c2
    · rw [if_neg c2] at he ⊢
      exact z26 hB h he
theorem z12z {n : Nat} (hn : n ≤ 4096) (rest : List Int) : rdN (0,pI (n : Int) ++ rest) = ((n : Int),(0,rest)) := by
  unfold rdN
  rw [z19 ⟨by omega,by omega⟩]
  simp only [ne_eq,not_true_eq_false,if_false]
  rw [if_neg (by rintro ⟨_,h⟩; omega)]
theorem opsF (l : List GOp) : (opsC l).flatten = pI (l.length : Int) ++ (l.map opB).flatten := by
  unfold opsC; rw [List.flatten_append,opsB_flat]; simp
theorem z130 (hg : SmOk g) (hB : okB B) (h : okR B s) (hm : ∀ x ∈ (rdOs g s).1,MayOp x) (he : (rdOs g s).2.1 = 0) : s.1 = 0 ∧ s.2 = (opsC (rdOs g s).1).flatten ++ (rdOs g s).2.2 := by
  unfold rdOs at hm he ⊢
  have hr := zkl s
  obtain ⟨e1,l2,k1,k2,k3⟩ := z11z (C := opB) (M := MayOp) (fun h => z10o g h) (fun h hm he => z12y hg hB h hm he) _ _ _ (zsl h) hm he
  obtain ⟨e0,k0⟩ := rdN_one hB h e1
  refine ⟨e0,?_⟩
  rw [List.nil_append] at k1
  rw [k0,k3,opsF,k1,k2,List.append_assoc]
  congr 2
  omega
theorem z10s (hg : SmOk g) {l : List GOp} (hl : l.length ≤ 4096) (h : ∀ x ∈ l,MayOp x) (rest : List Int) : rdOs g (0,(opsC l).flatten ++ rest) = (l,(0,rest)) := by
  unfold rdOs
  rw [opsF,List.append_assoc,z12z hl]
  simp only [Int.toNat_natCast]
  rw [zz3 (C := opB) l [] rest fun x hx r => z10r hg (h x hx) r]
  rfl
theorem z120 (hg : SmOk g) (hB : okB B) (h : okR B s) (hm : MayPt (rdP g s).1) (he : (rdP g s).2.1 = 0) : s.1 = 0 ∧ s.2 = (ptC (rdP g s).1).flatten ++ (rdP g s).2.2 ∧ byt (rdP g s).1.Data := by
  have h1 := zr h
  have h2 := zr h1
  have h3 := zr h2
  rw [z12v]
  unfold rdP at hm he ⊢
  simp only at hm he ⊢
  obtain ⟨m1,⟨m2,m3⟩,⟨m4,m5⟩,m6⟩ := hm
  simp only at m2 m3 m4 m5
  obtain ⟨e4,q4,q5⟩ := rdD_one hB h3 he
  obtain ⟨e3,q3⟩ := z26 hB h2 e4
  obtain ⟨e2,q2⟩ := z26 hB h1 e3
  obtain ⟨e1,q1⟩ := z26 hB h e2
  refine ⟨e1,?_,q5⟩
  rw [hg.inb _ (by omega),hg.inb _ (by omega)]
  simp only [List.map_cons,List.map_nil,List.flatten_cons,List.flatten_nil,List.append_nil,List.append_assoc]
  rw [← q4,← q3,← q2,← q1]
theorem zz4 (hg : SmOk g) {p : GPart} (hp : MayPt p) (rest : List Int) : rdP g (0,(ptC p).flatten ++ rest) = (p,(0,rest)) := by
  obtain ⟨a,b,c,d⟩ := p
  obtain ⟨m1,⟨m2,m3⟩,⟨m4,m5⟩,m6⟩ := hp
  simp only at m1 m2 m3 m4 m5 m6
  have r1 : R64 a := cnt64 m1
  have r2 : R64 b := ⟨by omega,by omega⟩
  have r3 : R64 c := ⟨by omega,by omega⟩
  rw [z12v]
  simp only [List.map_cons,List.map_nil,List.flatten_cons,List.flatten_nil,List.append_nil,List.append_assoc]
  unfold rdP
  simp only [z19 r1,z19 r2,z19 r3,rdD_back (t := d) (by omega),hg.of b (by omega),hg.of c (by omega)]
theorem z131 (hg : SmOk g) (hB : okB B) (h : okR B s) (hm : MayEp (rdE g s).1) (he : (rdE g s).2.1 = 0) : s.1 = 0 ∧ s.2 = (epC (rdE g s).1).flatten ++ (rdE g s).2.2 := by
  rw [mE_id hg.h7 hm] at he ⊢; exact rdE_one hB h he
theorem z10t (hg : SmOk g) {e : z7} (h : MayEp e) (rest : List Int) : rdE g (0,(epC e).flatten ++ rest) = (e,(0,rest)) := by
  have := rdE_back h rest
  rw [mE_of hg.h7' (by rw [this]; exact h)]; exact this
theorem zlp (hg : SmOk g) (hB : okB B) (h : okR B s) (hm : MayBa (rdBa g s).1) (he : (rdBa g s).2.1 = 0) : s.1 = 0 ∧ s.2 = (baC (rdBa g s).1).flatten ++ (rdBa g s).2.2 := by
  have h1 := zr h
  unfold rdBa at hm he ⊢
  simp only at hm he ⊢
  obtain ⟨m1,m2,m3⟩ := hm
  simp only at m2 m3
  obtain ⟨e2,q2⟩ := z26 hB h1 he
  obtain ⟨e1,q1⟩ := z26 hB h e2
  refine ⟨e1,?_⟩
  rw [zz1,hg.inb _ (by omega)]
  simp only [List.map_cons,List.map_nil,List.flatten_cons,List.flatten_nil,List.append_nil,List.append_assoc]
  rw [← q2,← q1]
theorem zg3 (hg : SmOk g) {b : zh} (h : MayBa b) (rest : List Int) : rdBa g (0,(baC b).flatten ++ rest) = (b,(0,rest)) := by
  obtain ⟨x,y⟩ := b
  have hr := ba64 h
  obtain ⟨m1,m2,m3⟩ := h
  simp only at m2 m3 hr
  rw [zz1]
  simp only [List.map_cons,List.map_nil,List.flatten_cons,List.flatten_nil,List.append_nil,List.append_assoc]
  unfold rdBa
  simp only [z19 hr.1,z19 hr.2,hg.of y (by omega)]
theorem z121 (hB : okB B) (h : okR B s) (he : (rdv id z8 s 8).1.1 = 0) : s.1 = 0 ∧ s.2 = ((rdv id z8 s 8).2.toList.map pI).flatten ++ (rdv id z8 s 8).1.2 := by
  rw [← rdl_8]; exact zvn hB h 8 he
section
variable (a2 a3 : Int) (a4 : GOp) (a5 a6 : Int) (a7 : List GOp) (a8 : z7) (a9 : Int) (a10 : Vector Int 8) (a11 : Int) (a12 : GPart) (a13 a14 a15 : Int)
theorem en0 : enB ⟨0,a2,a3,a4,a5,a6,a7,a8,a9,a10,a11,a12,a13,a14,a15⟩ = pI 0 := by
  show ([pI 0] ++ []).flatten = _
  rw [List.append_nil,List.flatten_cons,List.flatten_nil,List.append_nil]
theorem en1 : enB ⟨1,a2,a3,a4,a5,a6,a7,a8,a9,a10,a11,a12,a13,a14,a15⟩ = pI 1 ++ (pI a2 ++ (pI a3 ++ opB a4)) := by
  simp only [enB,enC,tailC,opB,Int.reduceBEq,cond_true,cond_false,List.map_cons,List.map_nil,List.flatten_append,List.flatten_cons,List.flatten_nil,List.append_nil,List.append_assoc]
theorem en2 : enB ⟨2,a2,a3,a4,a5,a6,a7,a8,a9,a10,a11,a12,a13,a14,a15⟩ = pI 2 ++ (pI a5 ++ (pI a6 ++ (opsC a7).flatten)) := by
  simp only [enB,enC,tailC,Int.reduceBEq,cond_true,cond_false,List.map_cons,List.map_nil,List.flatten_append,List.flatten_cons,List.flatten_nil,List.append_nil,List.append_assoc]
theorem en3 : enB ⟨3,a2,a3,a4,a5,a6,a7,a8,a9,a10,a11,a12,a13,a14,a15⟩ = pI 3 ++ (epC a8).flatten := by
  simp only [enB,enC,tailC,Int.reduceBEq,cond_true,cond_false,List.map_cons,List.map_nil,List.flatten_append,List.flatten_cons,List.flatten_nil,List.append_nil,List.append_assoc]
theorem en4 : enB ⟨4,a2,a3,a4,a5,a6,a7,a8,a9,a10,a11,a12,a13,a14,a15⟩ = pI 4 ++ (pI a6 ++ (pI a9 ++ ((a10.toList.map pI).flatten ++ pI a11))) := by
  simp only [enB,enC,tailC,Int.reduceBEq,cond_true,cond_false,List.map_cons,List.map_nil,List.flatten_append,List.flatten_cons,List.flatten_nil,List.append_nil,List.append_assoc]
theorem en5 : enB ⟨5,a2,a3,a4,a5,a6,a7,a8,a9,a10,a11,a12,a13,a14,a15⟩ = pI 5 ++ (ptC a12).flatten := by
  simp only [enB,enC,tailC,Int.reduceBEq,cond_true,cond_false,List.map_cons,List.map_nil,List.flatten_append,List.flatten_cons,List.flatten_nil,List.append_nil,List.append_assoc]
theorem en6 : enB ⟨6,a2,a3,a4,a5,a6,a7,a8,a9,a10,a11,a12,a13,a14,a15⟩ = pI 6 ++ (pI a13 ++ pI a14) := by
  simp only [enB,enC,tailC,Int.reduceBEq,cond_true,cond_false,List.map_cons,List.map_nil,List.flatten_append,List.flatten_cons,List.flatten_nil,List.append_nil,List.append_assoc]
theorem en7 : enB ⟨7,a2,a3,a4,a5,a6,a7,a8,a9,a10,a11,a12,a13,a14,a15⟩ = pI 7 ++ pI a13 := by
  simp only [enB,enC,tailC,Int.reduceBEq,cond_true,cond_false,List.map_cons,List.map_nil,List.flatten_append,List.flatten_cons,List.flatten_nil,List.append_nil,List.append_assoc]
theorem en8 : enB ⟨8,a2,a3,a4,a5,a6,a7,a8,a9,a10,a11,a12,a13,a14,a15⟩ = pI 8 ++ (pI a13 ++ pI a15) := by
  simp only [enB,enC,tailC,Int.reduceBEq,cond_true,cond_false,List.map_cons,List.map_nil,List.flatten_append,List.flatten_cons,List.flatten_nil,List.append_nil,List.append_assoc]
end
theorem zz5 (hg : SmOk g) (hB : okB B) (h : okR B s) (hm : MayEn (rdEn g s).1) (he : (rdEn g s).2.1 = 0) : s.1 = 0 ∧ s.2 = enB (rdEn g s).1 ++ (rdEn g s).2.2 := by
  have h1 := zr h
  have key := z26 hB h
  unfold rdEn at hm he ⊢
  generalize rd1 s = p at *
  obtain ⟨a,t⟩ := p
  simp only at h1 key hm he ⊢
  have hk : ∀ k : Int,0 ≤ k → g a = k → a = k := fun k h0 e => by rw [← e]; exact (hg.inb a (by omega)).symm
  generalize hka : g a = k at *
  by_cases c0 : t.1 ≠ 0
  · rw [if_pos c0] at he; exact absurd he c0
  rw [if_neg c0] at hm he ⊢
  obtain ⟨e0,q0⟩ := key (by simpa using c0)
  refine ⟨e0,?_⟩
  by_cases k0 : k = 0
  · rw [if_pos k0]
    subst k0
    rw [q0,hk 0 (by omega) rfl]
    unfold zE
    rw [en0]
  rw [if_neg k0] at hm he ⊢
  by_cases k1 : k = 1
  · rw [if_pos k1] at hm he ⊢
    subst k1
    rw [q0,hk 1 (by omega) rfl]
    obtain ⟨_,_,hc⟩ := hm
    unfold condE at hc
    simp only [Int.reduceBEq,cond_true,cond_false,Bool.and_eq_true,decide_eq_true_eq] at hc
    obtain ⟨e3,q3⟩ := z12y hg hB (zr (zr h1)) hc.2 he
    obtain ⟨e2,q2⟩ := z26 hB (zr h1) e3
    obtain ⟨e1,q1⟩ := z26 hB h1 e2
    rw [en1]
    simp only [List.append_assoc]
    rw [← q3,← q2,← q1]
  rw [if_neg k1] at hm he ⊢
  by_cases k2 : k = 2
  · rw [if_pos k2] at hm he ⊢
    subst k2
    rw [q0,hk 2 (by omega) rfl]
    obtain ⟨_,_,hc⟩ := hm
    unfold condE at hc
    simp only [Int.reduceBEq,cond_true,cond_false,Bool.and_eq_true,decide_eq_true_eq] at hc
    have hs := hc.1.1.1
    obtain ⟨e3,q3⟩ := z130 hg hB (zr (zr h1)) hc.2.2.2 he
    obtain ⟨e2,q2⟩ := z26 hB (zr h1) e3
    obtain ⟨e1,q1⟩ := z26 hB h1 e2
    rw [en2,hg.inb _ (by omega)]
    simp only [List.append_assoc]
    rw [← q3,← q2,← q1]
  rw [if_neg k2] at hm he ⊢
  by_cases k3 : k = 3
  · rw [if_pos k3] at hm he ⊢
    subst k3
    rw [q0,hk 3 (by omega) rfl]
    obtain ⟨_,_,hc⟩ := hm
    unfold condE at hc
    simp only [Int.reduceBEq,cond_true,cond_false,Bool.and_eq_true,decide_eq_true_eq] at hc
    obtain ⟨e3,q3⟩ := z131 hg hB h1 hc he
    rw [en3]
    simp only [List.append_assoc]
    rw [← q3]
  rw [if_neg k3] at hm he ⊢
  by_cases k4 : k = 4
  · rw [if_pos k4] at hm he ⊢
    subst k4
    rw [q0,hk 4 (by omega) rfl]
    obtain ⟨_,_,hc⟩ := hm
    unfold condE at hc
    simp only [Int.reduceBEq,cond_true,cond_false,Bool.and_eq_true,decide_eq_true_eq] at hc
    have hs := hc.1.1.2.1
    obtain ⟨e4,q4⟩ := z26 hB (zbk (zr (zr h1)) id z8 8) he
    obtain ⟨e3,q3⟩ := z121 hB (zr (zr h1)) e4
    obtain ⟨e2,q2⟩ := z26 hB (zr h1) e3
    obtain ⟨e1,q1⟩ := z26 hB h1 e2
    rw [en4,hg.inb _ (by omega)]
    simp only [List.append_assoc]
    rw [← q4,← q3,← q2,← q1]
  rw [if_neg k4] at hm he ⊢
  by_cases k5 : k = 5
  · rw [if_pos k5] at hm he ⊢
    subst k5
    rw [q0,hk 5 (by omega) rfl]
    obtain ⟨_,_,hc⟩ := hm
    unfold condE at hc
    simp only [Int.reduceBEq,cond_true,cond_false,Bool.and_eq_true,decide_eq_true_eq] at hc
    obtain ⟨e3,q3,_⟩ := z120 hg hB h1 hc he
    rw [en5]
    simp only [List.append_assoc]
    rw [← q3]
  rw [if_neg k5] at hm he ⊢
  by_cases k6 : k = 6
  · rw [if_pos k6] at hm he ⊢
    subst k6
    rw [q0,hk 6 (by omega) rfl]
    obtain ⟨_,_,hc⟩ := hm
    unfold condE at hc
    simp only [Int.reduceBEq,cond_true,cond_false,Bool.and_eq_true,decide_eq_true_eq] at hc
    have hs := hc.1.1.1; have hs2 := hc.1.2.1
    obtain ⟨e2,q2⟩ := z26 hB (zr h1) he
    obtain ⟨e1,q1⟩ := z26 hB h1 e2
    rw [en6,hg.inb _ (by omega),hg.inb _ (by omega)]
    simp only [List.append_assoc]
    rw [← q2,← q1]
  rw [if_neg k6] at hm he ⊢
  by_cases k7 : k = 7
  · rw [if_pos k7] at hm he ⊢
    subst k7
    rw [q0,hk 7 (by omega) rfl]
    obtain ⟨_,_,hc⟩ := hm
    unfold condE at hc
    simp only [Int.reduceBEq,cond_true,cond_false,Bool.and_eq_true,decide_eq_true_eq] at hc
    have hs := hc.1.1.1
    obtain ⟨e1,q1⟩ := z26 hB h1 he
    rw [en7,hg.inb _ (by omega)]
    simp only [List.append_assoc]
    rw [← q1]
  rw [if_neg k7] at hm he ⊢
  by_cases k8 : k = 8
  · rw [if_pos k8] at hm he ⊢
    subst k8
    rw [q0,hk 8 (by omega) rfl]
    obtain ⟨_,_,hc⟩ := hm
    unfold condE at hc
    simp only [Int.reduceBEq,cond_true,cond_false,Bool.and_eq_true,decide_eq_true_eq] at hc
    have hs := hc.1.1.1
    obtain ⟨e2,q2⟩ := z26 hB (zr h1) he
    obtain ⟨e1,q1⟩ := z26 hB h1 e2
    rw [en8,hg.inb _ (by omega)]
    simp only [List.append_assoc]
    rw [← q2,← q1]
  rw [if_neg k8] at hm he ⊢
  exact absurd he (show ¬ ((40 : Int) = 0) by decide)
theorem zvk (hg : SmOk g) {e : z6} (h : MayEn e) (rest : List Int) : rdEn g (0,enB e ++ rest) = (e,(0,rest)) := by
  obtain ⟨hk,hb,hc⟩ := h
  have hk9 := kind9 hk
  obtain ⟨kd,a2,a3,a4,a5,a6,a7,a8,a9,a10,a11,a12,a13,a14,a15⟩ := e
  simp only at hk9
  have rk : ∀ k : Int,0 ≤ k ∧ k ≤ 8 → R64 k := fun k h => ⟨by omega,by omega⟩
  rcases hk9 with rfl | rfl | rfl | rfl | rfl | rfl | rfl | rfl | rfl
  · replace hb : (⟨0,a2,a3,a4,a5,a6,a7,a8,a9,a10,a11,a12,a13,a14,a15⟩ : z6) = ⟨0,0,0,zOp,0,0,[],zEp,0,zV,0,zPt,0,0,0⟩ := hb
    rw [hb,en0]
    unfold rdEn
    simp only [z19 (rk 0 (by omega)),hg.of 0 (by omega)]
    rfl
  · replace hc : (decide (cnt a2) && decide (0 < a2) && decide (cnt a3) && decide (0 < a3) && decide (MayOp a4)) = true := hc
    simp only [Bool.and_eq_true,decide_eq_true_eq] at hc
    obtain ⟨⟨⟨⟨c1,_⟩,c2⟩,_⟩,c3⟩ := hc
    replace hb : (⟨1,a2,a3,a4,a5,a6,a7,a8,a9,a10,a11,a12,a13,a14,a15⟩ : z6) = ⟨1,a2,a3,a4,0,0,[],zEp,0,zV,0,zPt,0,0,0⟩ := hb
    rw [hb,en1]
    simp only [List.append_assoc]
    unfold rdEn
    simp only [z19 (rk 1 (by omega)),hg.of 1 (by omega),z19 (cnt64 c1),z19 (cnt64 c2),z10r hg c3]
    rfl
  · replace hc : (decide (sit a5) && decide (cnt a6) && decide (zbn a7)) = true := hc
    simp only [Bool.and_eq_true,decide_eq_true_eq] at hc
    obtain ⟨⟨c1,c2⟩,c3⟩ := hc
    replace hb : (⟨2,a2,a3,a4,a5,a6,a7,a8,a9,a10,a11,a12,a13,a14,a15⟩ : z6) = ⟨2,0,0,zOp,a5,a6,a7,zEp,0,zV,0,zPt,0,0,0⟩ := hb
    rw [hb,en2]
    simp only [List.append_assoc]
    unfold rdEn
    simp only [z19 (rk 2 (by omega)),hg.of 2 (by omega),z19 (sit64 c1),z19 (cnt64 c2),z10s hg c3.2.1 c3.2.2,hg.of a5 (by have := c1.1; have := c1.2; omega)]
    rfl
  · replace hc : (decide (MayEp a8)) = true := hc
    simp only [Bool.and_eq_true,decide_eq_true_eq] at hc
    replace hb : (⟨3,a2,a3,a4,a5,a6,a7,a8,a9,a10,a11,a12,a13,a14,a15⟩ : z6) = ⟨3,0,0,zOp,0,0,[],a8,0,zV,0,zPt,0,0,0⟩ := hb
    rw [hb,en3]
    simp only [List.append_assoc]
    unfold rdEn
    simp only [z19 (rk 3 (by omega)),hg.of 3 (by omega),z10t hg hc]
    rfl
  · replace hc : (decide (cnt a6) && decide (sit a9) && decide (zbm a10) && decide (cnt a11)) = true := hc
    simp only [Bool.and_eq_true,decide_eq_true_eq] at hc
    obtain ⟨⟨⟨c1,c2⟩,c3⟩,c4⟩ := hc
    replace hb : (⟨4,a2,a3,a4,a5,a6,a7,a8,a9,a10,a11,a12,a13,a14,a15⟩ : z6) = ⟨4,0,0,zOp,0,a6,[],zEp,a9,a10,a11,zPt,0,0,0⟩ := hb
    rw [hb,en4]
    simp only [List.append_assoc]
    unfold rdEn
    simp only [z19 (rk 4 (by omega)),hg.of 4 (by omega),z19 (cnt64 c1),z19 (sit64 c2),zkm (fun n hn => cnt64 (c3 n hn)),z19 (cnt64 c4),hg.of a9 (by have := c2.1; have := c2.2; omega)]
    rfl
  · replace hc : (decide (MayPt a12)) = true := hc
    simp only [Bool.and_eq_true,decide_eq_true_eq] at hc
    replace hb : (⟨5,a2,a3,a4,a5,a6,a7,a8,a9,a10,a11,a12,a13,a14,a15⟩ : z6) = ⟨5,0,0,zOp,0,0,[],zEp,0,zV,0,a12,0,0,0⟩ := hb
    rw [hb,en5]
    simp only [List.append_assoc]
    unfold rdEn
    simp only [z19 (rk 5 (by omega)),hg.of 5 (by omega),zz4 hg hc]
    rfl
  · replace hc : (decide (sit a13) && decide (sit a14) && decide (cnt a15)) = true := hc
    simp only [Bool.and_eq_true,decide_eq_true_eq] at hc
    obtain ⟨⟨c1,c2⟩,c3⟩ := hc
    replace hb : (⟨6,a2,a3,a4,a5,a6,a7,a8,a9,a10,a11,a12,a13,a14,a15⟩ : z6) = ⟨6,0,0,zOp,0,0,[],zEp,0,zV,0,zPt,a13,a14,0⟩ := hb
    rw [hb,en6]
    simp only [List.append_assoc]
    unfold rdEn
    simp only [z19 (rk 6 (by omega)),hg.of 6 (by omega),z19 (sit64 c1),z19 (sit64 c2),hg.of a13 (by have := c1.1; have := c1.2; omega),hg.of a14 (by have := c2.1; have := c2.2; omega)]
    rfl
  · replace hc : (decide (sit a13) && decide (sit a14) && decide (cnt a15)) = true := hc
    simp only [Bool.and_eq_true,decide_eq_true_eq] at hc
    obtain ⟨⟨c1,c2⟩,c3⟩ := hc
    replace hb : (⟨7,a2,a3,a4,a5,a6,a7,a8,a9,a10,a11,a12,a13,a14,a15⟩ : z6) = ⟨7,0,0,zOp,0,0,[],zEp,0,zV,0,zPt,a13,0,0⟩ := hb
    rw [hb,en7]
    simp only [List.append_assoc]
    unfold rdEn
    simp only [z19 (rk 7 (by omega)),hg.of 7 (by omega),z19 (sit64 c1),hg.of a13 (by have := c1.1; have := c1.2; omega)]
    rfl
  · replace hc : (decide (sit a13) && decide (sit a14) && decide (cnt a15)) = true := hc
    simp only [Bool.and_eq_true,decide_eq_true_eq] at hc
    obtain ⟨⟨c1,c2⟩,c3⟩ := hc
    replace hb : (⟨8,a2,a3,a4,a5,a6,a7,a8,a9,a10,a11,a12,a13,a14,a15⟩ : z6) = ⟨8,0,0,zOp,0,0,[],zEp,0,zV,0,zPt,a13,0,a15⟩ := hb
    rw [hb,en8]
    simp only [List.append_assoc]
    unfold rdEn
    simp only [z19 (rk 8 (by omega)),hg.of 8 (by omega),z19 (sit64 c1),z19 (cnt64 c3),hg.of a13 (by have := c1.1; have := c1.2; omega)]
    rfl
end
end Go.Proofs.YteinehkdjkobnaaGreat
