/-
What is read is what was written: slotted entries,lists of them,messages.
-/
import Derived.Test.YteinehkdjkobnaaGreatqVc
set_option linter.unusedVariables false
set_option linter.unusedSimpArgs false
namespace Go.Proofs.YteinehkdjkobnaaGreat
open Go Go.Ev
section
variable {N : Nat} {B : List Int} {s : St} {g : Int → Int}
theorem slF (x : zd) : slB x = pI x.Slot ++ ((baC x.Ballot).flatten ++ enB x.Entry) := by
  rw [slB_eq,zz1]; simp
theorem rdSl_one (hg : SmOk g) (hB : okB B) (h : okR B s) (hm : MaySl (rdSl g s).1) (he : (rdSl g s).2.1 = 0) : s.1 = 0 ∧ s.2 = slB (rdSl g s).1 ++ (rdSl g s).2.2 := by
  have h1 := zr h
  have h2 := z9g g h1
  rw [slF]
  unfold rdSl at hm he ⊢
  simp only at hm he ⊢
  obtain ⟨m1,m2,m3⟩ := hm
  obtain ⟨e3,q3⟩ := zz5 hg hB h2 m3 he
  obtain ⟨e2,q2⟩ := zlp hg hB h1 m2 e3
  obtain ⟨e1,q1⟩ := z26 hB h e2
  refine ⟨e1,?_⟩
  simp only [List.append_assoc]
  rw [← q3,← q2,← q1]
theorem rdSl_back (hg : SmOk g) {x : zd} (hx : MaySl x) (rest : List Int) : rdSl g (0,slB x ++ rest) = (x,(0,rest)) := by
  obtain ⟨a,b,c⟩ := x
  obtain ⟨m1,m2,m3⟩ := hx
  rw [slF]
  simp only [List.append_assoc]
  unfold rdSl
  simp only [z19 (cnt64 m1),zg3 hg m2,zvk hg m3]
theorem zz7 (hg : SmOk g) (hB : okB B) (h : okR B s) (hm : ∀ x ∈ (rdSs g s).1,MaySl x) (he : (rdSs g s).2.1 = 0) : s.1 = 0 ∧ s.2 = (lsC (rdSs g s).1).flatten ++ (rdSs g s).2.2 := by
  unfold rdSs at hm he ⊢
  have hr := zkl s
  obtain ⟨e1,l2,k1,k2,k3⟩ := z11z (C := slB) (M := MaySl) (fun h => zz6 g h) (fun h hm he => rdSl_one hg hB h hm he) _ _ _ (zsl h) hm he
  obtain ⟨e0,k0⟩ := rdN_one hB h e1
  refine ⟨e0,?_⟩
  rw [List.nil_append] at k1
  rw [k0,k3,z12w,k1,k2,List.append_assoc]
  simp only [List.map_cons,List.map_nil,List.flatten_cons,List.flatten_nil,List.append_nil]
  congr 2
  omega
theorem zvl (hg : SmOk g) {l : List zd} (hl : l.length ≤ 4096) (h : ∀ x ∈ l,MaySl x) (rest : List Int) : rdSs g (0,(lsC l).flatten ++ rest) = (l,(0,rest)) := by
  unfold rdSs
  rw [z12w,List.append_assoc]
  simp only [List.map_cons,List.map_nil,List.flatten_cons,List.flatten_nil,List.append_nil]
  rw [z12z hl]
  simp only [Int.toNat_natCast]
  rw [zz3 (C := slB) l [] rest fun x hx r => rdSl_back hg (h x hx) r]
  rfl
theorem z132 (hg : SmOk g) (hB : okB B) (h : okR B s) (hm : MayAd (rdAd g s).1) (he : (rdAd g s).2.1 = 0) : s.1 = 0 ∧ s.2 = pI (rdAd g s).1.Group ++ (pI (rdAd g s).1.Replica ++ (rdAd g s).2.2) := by
  have h1 := zr h
  unfold rdAd at hm he ⊢
  simp only at hm he ⊢
  obtain ⟨⟨m1,m2⟩,m3,m4⟩ := hm
  simp only at m1 m2 m3 m4
  obtain ⟨e2,q2⟩ := z26 hB h1 he
  obtain ⟨e1,q1⟩ := z26 hB h e2
  refine ⟨e1,?_⟩
  rw [hg.inb _ (by omega),hg.inb _ (by omega),← q2,← q1]
theorem z10x (hg : SmOk g) {a : GAddr} (h : MayAd a) (rest : List Int) : rdAd g (0,pI a.Group ++ (pI a.Replica ++ rest)) = (a,(0,rest)) := by
  have hr := ad64 h
  obtain ⟨x,y⟩ := a
  obtain ⟨⟨m1,m2⟩,m3,m4⟩ := h
  simp only at m1 m2 m3 m4 hr
  unfold rdAd
  simp only [z19 hr.1,z19 hr.2,hg.of x (by omega),hg.of y (by omega)]
theorem z123 {α : Type} {f : St → α × St} {P : α → Prop} (hok : ∀ {s},okR B s → okR B (f s).2) (hf : ∀ {s},okR B s → P (f s).1) : ∀ (n : Nat) (l : List α) (s : St),okR B s → (∀ x ∈ l,P x) → (∀ x ∈ (rdL f n l s).1,P x) ∧ (rdL f n l s).1.length ≤ l.length + n
  | 0,l,s,h,hl => ⟨hl,Nat.le_refl _⟩
  | n + 1,l,s,h,hl => by
    rw [zqz]
    by_cases hs : s.1 ≠ 0
    · rw [if_pos hs]; exact ⟨fun x hx => absurd hx (by simp),Nat.zero_le _⟩
    · rw [if_neg hs]
      obtain ⟨h1,h2⟩ := z123 hok hf n (l ++ [(f s).1]) (f s).2 (hok h) fun x hx => by
        rcases List.mem_append.1 hx with hx | hx
        · exact hl x hx
        · simp at hx; subst hx; exact hf h
      exact ⟨h1,by simp only [List.length_append,List.length_cons,List.length_nil] at h2; omega⟩
theorem z133 (h : okR B s) : (rdOs g s).1.length ≤ 4096 := by
  have hr := zkl s
  have := (z123 (B := B) (f := rdO g) (P := fun _ => True) (fun h => z10o g h) (fun _ => trivial) (rdN s).1.toNat [] (rdN s).2 (zsl h) (by simp)).2
  unfold rdOs
  simp only [List.length_nil] at this
  omega
theorem z124 (hB : okB B) (h : okR B s) : byt (rdD s).1 := by
  unfold rdD
  split
  · have hb := (zj8 hB h).2
    by_cases he : (rB s.2).2.1 = 0
    · obtain ⟨h1,h2⟩ := rB_one hb he
      exact fun x hx => hb x (by rw [h1]; simp only at hx; simp [hx])
    · unfold rB at he ⊢
      intro x hx
      simp only at hx
      split at hx
      · cases hx
      · split at hx
        · cases hx
        · split at hx
          · cases hx
          · exact hb x (List.mem_of_mem_drop (List.mem_of_mem_take hx))
  · exact fun x hx => by cases hx
def roomE (e : z6) : Prop := e.Ops.length ≤ 4096 ∧ byt e.Part.Data
theorem roomE.of {N : Nat} {e : z6} (h : roomE e) (hN : 4200 ≤ N) : e.Ops.length + 20 ≤ N ∧ e.Ops.length ≤ 9223372036854775807 ∧ byt e.Part.Data := ⟨by have := h.1; omega,by have := h.1; omega,h.2⟩
theorem zr0 (hB : okB B) (h : okR B s) : roomE (rdEn g s).1 := by
  have h1 := zr h
  have b0 : byt [] := fun x hx => by cases hx
  unfold rdEn
  simp only
  split; · exact ⟨by simp [zE],b0⟩
  split; · exact ⟨by simp [zE],b0⟩
  split; · exact ⟨by simp,b0⟩
  split; · exact ⟨z133 (zr (zr h1)),b0⟩
  split; · exact ⟨by simp,b0⟩
  split; · exact ⟨by simp,b0⟩
  split; · exact ⟨by simp,z124 hB (zr (zr (zr h1)))⟩
  split; · exact ⟨by simp,b0⟩
  split; · exact ⟨by simp,b0⟩
  split; · exact ⟨by simp,b0⟩
  exact ⟨by simp [zE],b0⟩
theorem zvm (hB : okB B) (h : okR B s) : (rdSs g s).1.length ≤ 4096 ∧ ∀ x ∈ (rdSs g s).1,roomE x.Entry := by
  have hr := zkl s
  have := z123 (B := B) (f := rdSl g) (P := fun x => roomE x.Entry) (fun h => zz6 g h) (fun h => zr0 hB (z9g g (zr h))) (rdN s).1.toNat [] (rdN s).2 (zsl h) (by simp)
  unfold rdSs
  refine ⟨?_,this.1⟩
  have := this.2
  simp only [List.length_nil] at this
  omega
theorem zz8 {l : List zd} (hN : 4200 ≤ N) (h : l.length ≤ 4096 ∧ ∀ x ∈ l,roomE x.Entry) : roomS N l := ⟨by omega,by omega,fun x hx => (h.2 x hx).of hN⟩
theorem z10y (hN : 4200 ≤ N) (hB : okB B) (h : okR B s) (k : Int) (fr to_ : GAddr) : roomM N (rdBd g k fr to_ s).1 := by
  have r1 : roomS N ([] : List zd) := ⟨by simp; omega,by simp,fun x hx => by cases hx⟩
  have r2 : zEn.Ops.length + 20 ≤ N ∧ zEn.Ops.length ≤ 9223372036854775807 ∧ byt zEn.Part.Data := ⟨by simp [zEn]; omega,by simp [zEn],fun x hx => by cases hx⟩
  have r3 : ([] : List GOp).length + 20 ≤ N ∧ ([] : List GOp).length ≤ 9223372036854775807 := ⟨by simp; omega,by simp⟩
  have r4 : byt zPt.Data := fun x hx => by cases hx
  have ro : ∀ {s : St},okR B s → (rdOs g s).1.length + 20 ≤ N ∧ (rdOs g s).1.length ≤ 9223372036854775807 := fun h => by have := z133 (g := g) h; exact ⟨by omega,by omega⟩
  by_cases hk : 1 ≤ k ∧ k ≤ 15
  · have hk' : k = 1 ∨ k = 2 ∨ k = 3 ∨ k = 4 ∨ k = 5 ∨ k = 6 ∨ k = 7 ∨ k = 8 ∨ k = 9 ∨ k = 10 ∨ k = 11 ∨ k = 12 ∨ k = 13 ∨ k = 14 ∨ k = 15 := by omega
    rcases hk' with rfl | rfl | rfl | rfl | rfl | rfl | rfl | rfl | rfl | rfl | rfl | rfl | rfl | rfl | rfl
    · rw [bd1]; exact ⟨r1,r2,r3,r4⟩
    · rw [bd2]; exact ⟨zz8 hN (zvm hB ((zr (z9g g h)))),r2,r3,r4⟩
    · rw [bd3]; exact ⟨zz8 hN (zvm hB ((z9g g h))),r2,r3,r4⟩
    · rw [bd4]; exact ⟨r1,r2,r3,r4⟩
    · rw [bd5]; exact ⟨r1,r2,r3,r4⟩
    · rw [bd6]; exact ⟨zz8 hN (zvm hB (h)),r2,r3,r4⟩
    · rw [bd7]; exact ⟨r1,r2,r3,r4⟩
    · rw [bd8]; exact ⟨r1,r2,r3,r4⟩
    · rw [bd9]; exact ⟨r1,(zr0 hB (h)).of hN,r3,r4⟩
    · rw [bd10]; exact ⟨r1,r2,r3,r4⟩
    · rw [bd11]; exact ⟨r1,r2,ro ((zr (zr (zr h)))),r4⟩
    · rw [bd12]; exact ⟨r1,r2,r3,r4⟩
    · rw [bd13]; exact ⟨r1,r2,r3,z124 hB (zr (zr (zr (h))))⟩
    · rw [bd14]; exact ⟨r1,r2,r3,r4⟩
    · rw [bd15]; exact ⟨r1,r2,r3,z124 hB (zr (zr (zr ((zr h)))))⟩
  · rw [bd_not g hk]; exact ⟨r1,r2,r3,r4⟩
theorem z10z (hN : 4200 ≤ N) (hB : okB B) (h : okR B s) : roomM N (rdMs g s).1 := by
  unfold rdMs
  refine z10y hN hB (znf g (znf g ?_)) _ _ _
  split
  · exact zr h
  · exact zr h
theorem z110 (k : Int) (fr to_ : GAddr) : (rdBd g k fr to_ s).1.Kind = k ∧ (rdBd g k fr to_ s).1.From = fr ∧ (rdBd g k fr to_ s).1.To = to_ := by
  by_cases hk : 1 ≤ k ∧ k ≤ 15
  · have hk' : k = 1 ∨ k = 2 ∨ k = 3 ∨ k = 4 ∨ k = 5 ∨ k = 6 ∨ k = 7 ∨ k = 8 ∨ k = 9 ∨ k = 10 ∨ k = 11 ∨ k = 12 ∨ k = 13 ∨ k = 14 ∨ k = 15 := by omega
    rcases hk' with rfl | rfl | rfl | rfl | rfl | rfl | rfl | rfl | rfl | rfl | rfl | rfl | rfl | rfl | rfl
    all_goals exact ⟨rfl,rfl,rfl⟩
  · rw [bd_not g hk]; exact ⟨rfl,rfl,rfl⟩
theorem msF (m : GMsg) : msB m = pI m.Kind ++ (pI m.From.Group ++ (pI m.From.Replica ++ (pI m.To.Group ++ (pI m.To.Replica ++ (bdC m).flatten)))) := by
  unfold msB msC hdC
  simp only [List.map_cons,List.map_nil,List.flatten_append,List.flatten_cons,List.flatten_nil,List.append_nil,List.append_assoc]
theorem bdF1 {m : GMsg} (h : m.Kind = 1) : (bdC m).flatten = (baC m.Ballot).flatten ++ (pI m.Slot) := by
  unfold bdC; rw [h]; simp only [Int.reduceBEq,cond_true,cond_false,enB,List.map_cons,List.map_nil,List.flatten_append,List.flatten_cons,List.flatten_nil,List.append_nil,List.append_assoc]
theorem bdF2 {m : GMsg} (h : m.Kind = 2) : (bdC m).flatten = (baC m.Ballot).flatten ++ (pI m.Slot ++ ((lsC m.List_).flatten)) := by
  unfold bdC; rw [h]; simp only [Int.reduceBEq,cond_true,cond_false,enB,List.map_cons,List.map_nil,List.flatten_append,List.flatten_cons,List.flatten_nil,List.append_nil,List.append_assoc]
theorem bdF3 {m : GMsg} (h : m.Kind = 3) : (bdC m).flatten = (baC m.Ballot).flatten ++ ((lsC m.List_).flatten) := by
  unfold bdC; rw [h]; simp only [Int.reduceBEq,cond_true,cond_false,enB,List.map_cons,List.map_nil,List.flatten_append,List.flatten_cons,List.flatten_nil,List.append_nil,List.append_assoc]
theorem bdF4 {m : GMsg} (h : m.Kind = 4) : (bdC m).flatten = (baC m.Ballot).flatten ++ (pI m.Slot) := by
  unfold bdC; rw [h]; simp only [Int.reduceBEq,cond_true,cond_false,enB,List.map_cons,List.map_nil,List.flatten_append,List.flatten_cons,List.flatten_nil,List.append_nil,List.append_assoc]
theorem bdF5 {m : GMsg} (h : m.Kind = 5) : (bdC m).flatten = (baC m.Ballot).flatten := by
  unfold bdC; rw [h]; simp only [Int.reduceBEq,cond_true,cond_false,enB,List.map_cons,List.map_nil,List.flatten_append,List.flatten_cons,List.flatten_nil,List.append_nil,List.append_assoc]
theorem bdF6 {m : GMsg} (h : m.Kind = 6) : (bdC m).flatten = (lsC m.List_).flatten := by
  unfold bdC; rw [h]; simp only [Int.reduceBEq,cond_true,cond_false,enB,List.map_cons,List.map_nil,List.flatten_append,List.flatten_cons,List.flatten_nil,List.append_nil,List.append_assoc]
theorem bdF7 {m : GMsg} (h : m.Kind = 7) : (bdC m).flatten = (baC m.Ballot).flatten ++ (pI m.Slot) := by
  unfold bdC; rw [h]; simp only [Int.reduceBEq,cond_true,cond_false,enB,List.map_cons,List.map_nil,List.flatten_append,List.flatten_cons,List.flatten_nil,List.append_nil,List.append_assoc]
theorem bdF8 {m : GMsg} (h : m.Kind = 8) : (bdC m).flatten = pI m.Slot := by
  unfold bdC; rw [h]; simp only [Int.reduceBEq,cond_true,cond_false,enB,List.map_cons,List.map_nil,List.flatten_append,List.flatten_cons,List.flatten_nil,List.append_nil,List.append_assoc]
theorem bdF9 {m : GMsg} (h : m.Kind = 9) : (bdC m).flatten = enB m.Entry := by
  unfold bdC; rw [h]; simp only [Int.reduceBEq,cond_true,cond_false,enB,List.map_cons,List.map_nil,List.flatten_append,List.flatten_cons,List.flatten_nil,List.append_nil,List.append_assoc]
theorem bdF10 {m : GMsg} (h : m.Kind = 10) : (bdC m).flatten = pI m.Number ++ ((m.Vector_.toList.map pI).flatten ++ (pI m.Clock)) := by
  unfold bdC; rw [h]; simp only [Int.reduceBEq,cond_true,cond_false,enB,List.map_cons,List.map_nil,List.flatten_append,List.flatten_cons,List.flatten_nil,List.append_nil,List.append_assoc]
theorem bdF11 {m : GMsg} (h : m.Kind = 11) : (bdC m).flatten = pI m.Number ++ (pI m.Origin ++ (pI m.Slot ++ ((opsC m.Ops).flatten))) := by
  unfold bdC; rw [h]; simp only [Int.reduceBEq,cond_true,cond_false,enB,List.map_cons,List.map_nil,List.flatten_append,List.flatten_cons,List.flatten_nil,List.append_nil,List.append_assoc]
theorem bdF12 {m : GMsg} (h : m.Kind = 12) : (bdC m).flatten = (epC m.Epoch).flatten := by
  unfold bdC; rw [h]; simp only [Int.reduceBEq,cond_true,cond_false,enB,List.map_cons,List.map_nil,List.flatten_append,List.flatten_cons,List.flatten_nil,List.append_nil,List.append_assoc]
theorem bdF13 {m : GMsg} (h : m.Kind = 13) : (bdC m).flatten = (ptC m.Part).flatten := by
  unfold bdC; rw [h]; simp only [Int.reduceBEq,cond_true,cond_false,enB,List.map_cons,List.map_nil,List.flatten_append,List.flatten_cons,List.flatten_nil,List.append_nil,List.append_assoc]
theorem bdF14 {m : GMsg} (h : m.Kind = 14) : (bdC m).flatten = pI m.Number ++ ((m.Vector_.toList.map pI).flatten) := by
  unfold bdC; rw [h]; simp only [Int.reduceBEq,cond_true,cond_false,enB,List.map_cons,List.map_nil,List.flatten_append,List.flatten_cons,List.flatten_nil,List.append_nil,List.append_assoc]
theorem bdF15 {m : GMsg} (h : m.Kind = 15) : (bdC m).flatten = pI m.Slot ++ ((ptC m.Part).flatten) := by
  unfold bdC; rw [h]; simp only [Int.reduceBEq,cond_true,cond_false,enB,List.map_cons,List.map_nil,List.flatten_append,List.flatten_cons,List.flatten_nil,List.append_nil,List.append_assoc]
theorem rdBd_one (hg : SmOk g) (hB : okB B) (h : okR B s) (k : Int) (fr to_ : GAddr) (h1 : MayMs (rdBd g k fr to_ s).1) (he : (rdBd g k fr to_ s).2.1 = 0) : s.1 = 0 ∧ s.2 = (bdC (rdBd g k fr to_ s).1).flatten ++ (rdBd g k fr to_ s).2.2 := by
  have hr := z10y (N := 4200) (g := g) (Nat.le_refl _) hB h k fr to_
  have hs := spP_of hr.byt h1.sp
  have hk : 1 ≤ k ∧ k ≤ 15 := by have := h1.kind; unfold kindM at this; rwa [(z110 k fr to_).1] at this
  have hk' : k = 1 ∨ k = 2 ∨ k = 3 ∨ k = 4 ∨ k = 5 ∨ k = 6 ∨ k = 7 ∨ k = 8 ∨ k = 9 ∨ k = 10 ∨ k = 11 ∨ k = 12 ∨ k = 13 ∨ k = 14 ∨ k = 15 := by omega
  rcases hk' with rfl | rfl | rfl | rfl | rfl | rfl | rfl | rfl | rfl | rfl | rfl | rfl | rfl | rfl | rfl
  · rw [bdF1 (m := (rdBd g 1 fr to_ s).1) rfl]
    rw [bd1] at h1 he hs ⊢
    obtain ⟨e1,q1⟩ := z26 hB (z9g g h) he
    obtain ⟨e0,q0⟩ := zlp hg hB h h1.ba e1
    refine ⟨e0,?_⟩
    simp only [List.append_assoc] at *
    rw [← q1,← q0]
  · rw [bdF2 (m := (rdBd g 2 fr to_ s).1) rfl]
    rw [bd2] at h1 he hs ⊢
    obtain ⟨e2,q2⟩ := zz7 hg hB (zr (z9g g h)) ((hs.1 rfl).2) he
    obtain ⟨e1,q1⟩ := z26 hB (z9g g h) e2
    obtain ⟨e0,q0⟩ := zlp hg hB h h1.ba e1
    refine ⟨e0,?_⟩
    simp only [List.append_assoc] at *
    rw [← q2,← q1,← q0]
  · rw [bdF3 (m := (rdBd g 3 fr to_ s).1) rfl]
    rw [bd3] at h1 he hs ⊢
    obtain ⟨e1,q1⟩ := zz7 hg hB (z9g g h) ((hs.2.1 rfl).2) he
    obtain ⟨e0,q0⟩ := zlp hg hB h h1.ba e1
    refine ⟨e0,?_⟩
    simp only [List.append_assoc] at *
    rw [← q1,← q0]
  · rw [bdF4 (m := (rdBd g 4 fr to_ s).1) rfl]
    rw [bd4] at h1 he hs ⊢
    obtain ⟨e1,q1⟩ := z26 hB (z9g g h) he
    obtain ⟨e0,q0⟩ := zlp hg hB h h1.ba e1
    refine ⟨e0,?_⟩
    simp only [List.append_assoc] at *
    rw [← q1,← q0]
  · rw [bdF5 (m := (rdBd g 5 fr to_ s).1) rfl]
    rw [bd5] at h1 he hs ⊢
    obtain ⟨e0,q0⟩ := zlp hg hB h h1.ba he
    refine ⟨e0,?_⟩
    simp only [List.append_assoc] at *
    rw [← q0]
  · rw [bdF6 (m := (rdBd g 6 fr to_ s).1) rfl]
    rw [bd6] at h1 he hs ⊢
    obtain ⟨e0,q0⟩ := zz7 hg hB h ((hs.2.2.1 rfl).2) he
    refine ⟨e0,?_⟩
    simp only [List.append_assoc] at *
    rw [← q0]
  · rw [bdF7 (m := (rdBd g 7 fr to_ s).1) rfl]
    rw [bd7] at h1 he hs ⊢
    obtain ⟨e1,q1⟩ := z26 hB (z9g g h) he
    obtain ⟨e0,q0⟩ := zlp hg hB h h1.ba e1
    refine ⟨e0,?_⟩
    simp only [List.append_assoc] at *
    rw [← q1,← q0]
  · rw [bdF8 (m := (rdBd g 8 fr to_ s).1) rfl]
    rw [bd8] at h1 he hs ⊢
    obtain ⟨e0,q0⟩ := z26 hB h he
    refine ⟨e0,?_⟩
    simp only [List.append_assoc] at *
    rw [← q0]
  · rw [bdF9 (m := (rdBd g 9 fr to_ s).1) rfl]
    rw [bd9] at h1 he hs ⊢
    obtain ⟨e0,q0⟩ := zz5 hg hB h (hs.2.2.2.1 rfl) he
    refine ⟨e0,?_⟩
    simp only [List.append_assoc] at *
    rw [← q0]
  · rw [bdF10 (m := (rdBd g 10 fr to_ s).1) rfl]
    rw [bd10] at h1 he hs ⊢
    obtain ⟨e2,q2⟩ := z26 hB (zbk (zr h) id z8 8) he
    obtain ⟨e1,q1⟩ := z121 hB (zr h) e2
    obtain ⟨e0,q0⟩ := z26 hB h e1
    refine ⟨e0,?_⟩
    simp only [List.append_assoc] at *
    rw [← q2,← q1,← q0]
  · rw [bdF11 (m := (rdBd g 11 fr to_ s).1) rfl]
    rw [bd11] at h1 he hs ⊢
    obtain ⟨e3,q3⟩ := z130 hg hB (zr (zr (zr h))) (hs.2.2.2.2.1 rfl).2.2.2 he
    obtain ⟨e2,q2⟩ := z26 hB (zr (zr h)) e3
    obtain ⟨e1,q1⟩ := z26 hB (zr h) e2
    obtain ⟨e0,q0⟩ := z26 hB h e1
    refine ⟨e0,?_⟩
    have ho := (hs.2.2.2.2.1 rfl).1.1
    simp only at ho ⊢
    rw [hg.inb _ (by omega)]
    simp only [List.append_assoc] at *
    rw [← q3,← q2,← q1,← q0]
  · rw [bdF12 (m := (rdBd g 12 fr to_ s).1) rfl]
    rw [bd12] at h1 he hs ⊢
    obtain ⟨e0,q0⟩ := z131 hg hB h (hs.2.2.2.2.2.1 rfl) he
    refine ⟨e0,?_⟩
    simp only [List.append_assoc] at *
    rw [← q0]
  · rw [bdF13 (m := (rdBd g 13 fr to_ s).1) rfl]
    rw [bd13] at h1 he hs ⊢
    obtain ⟨e0,q0,_⟩ := z120 hg hB h (hs.2.2.2.2.2.2.1 rfl) he
    refine ⟨e0,?_⟩
    simp only [List.append_assoc] at *
    rw [← q0]
  · rw [bdF14 (m := (rdBd g 14 fr to_ s).1) rfl]
    rw [bd14] at h1 he hs ⊢
    obtain ⟨e1,q1⟩ := z121 hB (zr h) he
    obtain ⟨e0,q0⟩ := z26 hB h e1
    refine ⟨e0,?_⟩
    simp only [List.append_assoc] at *
    rw [← q1,← q0]
  · rw [bdF15 (m := (rdBd g 15 fr to_ s).1) rfl]
    rw [bd15] at h1 he hs ⊢
    obtain ⟨e1,q1,_⟩ := z120 hg hB (zr h) (hs.2.2.2.2.2.2.2 rfl) he
    obtain ⟨e0,q0⟩ := z26 hB h e1
    refine ⟨e0,?_⟩
    simp only [List.append_assoc] at *
    rw [← q1,← q0]
theorem rdMs_one (hg : SmOk g) (hB : okB B) (h : okR B s) (hm : MayMs (rdMs g s).1) (he : (rdMs g s).2.1 = 0) : s.1 = 0 ∧ s.2 = msB (rdMs g s).1 ++ (rdMs g s).2.2 := by
  have h1 := zr h
  have key := z26 hB h
  rw [msF]
  unfold rdMs at hm he ⊢
  simp only at hm he ⊢
  obtain ⟨d1,d2,d3⟩ := z110 (g := g) (s := (rdAd g (rdAd g (if (rd1 s).2.1 = 0 ∧ (g (rd1 s).1 < 1 ∨ 15 < g (rd1 s).1) then (40,(rd1 s).2.2) else (rd1 s).2)).2).2) (g (rd1 s).1) (rdAd g (if (rd1 s).2.1 = 0 ∧ (g (rd1 s).1 < 1 ∨ 15 < g (rd1 s).1) then (40,(rd1 s).2.2) else (rd1 s).2)).1 (rdAd g (rdAd g (if (rd1 s).2.1 = 0 ∧ (g (rd1 s).1 < 1 ∨ 15 < g (rd1 s).1) then (40,(rd1 s).2.2) else (rd1 s).2)).2).1
  have hk : 1 ≤ g (rd1 s).1 ∧ g (rd1 s).1 ≤ 15 := by have := hm.kind; unfold kindM at this; rwa [d1] at this
  have hc : ¬ ((rd1 s).2.1 = 0 ∧ (g (rd1 s).1 < 1 ∨ 15 < g (rd1 s).1)) := by rintro ⟨_,h⟩; omega
  rw [if_neg hc] at hm he d1 d2 d3 ⊢
  have h2 := znf g h1
  have h3 := znf g h2
  obtain ⟨e4,q4⟩ := rdBd_one hg hB h3 _ _ _ hm he
  have ha := hm.from_
  have hb := hm.to_
  rw [d2] at ha
  rw [d3] at hb
  obtain ⟨e3,q3⟩ := z132 hg hB h2 hb e4
  obtain ⟨e2,q2⟩ := z132 hg hB h1 ha e3
  obtain ⟨e1,q1⟩ := key e2
  refine ⟨e1,?_⟩
  rw [d1,d2,d3]
  simp only [List.append_assoc]
  rw [← q4,← q3,← q2,hg.inb _ (by omega),← q1]
theorem ob {n : Int} (h : sit n) : -1 ≤ n ∧ n ≤ 2147483647 := by have := h.1; have := h.2; constructor <;> omega
theorem rdBd_back (hg : SmOk g) {m : GMsg} (hb : bytM m) (h : MayMs m) (rest : List Int) : rdBd g m.Kind m.From m.To (0,(bdC m).flatten ++ rest) = (m,(0,rest)) := by
  have hs := spP_of hb h.sp
  have hk' := zxo h.kind
  have hbare := h.bare
  obtain ⟨kd,fr,to_,a4,a5,a6,a7,a8,a9,a10,a11,a12,a13,a14⟩ := m
  simp only at hk'
  rcases hk' with rfl | rfl | rfl | rfl | rfl | rfl | rfl | rfl | rfl | rfl | rfl | rfl | rfl | rfl | rfl
  · rw [bdF1 (m := ⟨1,fr,to_,a4,a5,a6,a7,a8,a9,a10,a11,a12,a13,a14⟩) rfl,bd1]
    replace hbare : (⟨1,fr,to_,a4,a5,a6,a7,a8,a9,a10,a11,a12,a13,a14⟩ : GMsg) = ⟨1,fr,to_,a4,a5,[],zEn,0,zV,0,0,[],zEp,zPt⟩ := hbare
    rw [hbare]
    simp only [List.append_assoc]
    simp only [zg3 hg h.ba,z19 (cnt64 h.slot)]
  · rw [bdF2 (m := ⟨2,fr,to_,a4,a5,a6,a7,a8,a9,a10,a11,a12,a13,a14⟩) rfl,bd2]
    replace hbare : (⟨2,fr,to_,a4,a5,a6,a7,a8,a9,a10,a11,a12,a13,a14⟩ : GMsg) = ⟨2,fr,to_,a4,a5,a6,zEn,0,zV,0,0,[],zEp,zPt⟩ := hbare
    rw [hbare]
    simp only [List.append_assoc]
    simp only [zg3 hg h.ba,z19 (cnt64 h.slot),zvl hg (hs.1 rfl).1 (hs.1 rfl).2]
  · rw [bdF3 (m := ⟨3,fr,to_,a4,a5,a6,a7,a8,a9,a10,a11,a12,a13,a14⟩) rfl,bd3]
    replace hbare : (⟨3,fr,to_,a4,a5,a6,a7,a8,a9,a10,a11,a12,a13,a14⟩ : GMsg) = ⟨3,fr,to_,a4,0,a6,zEn,0,zV,0,0,[],zEp,zPt⟩ := hbare
    rw [hbare]
    simp only [List.append_assoc]
    simp only [zg3 hg h.ba,zvl hg (hs.2.1 rfl).1 (hs.2.1 rfl).2]
  · rw [bdF4 (m := ⟨4,fr,to_,a4,a5,a6,a7,a8,a9,a10,a11,a12,a13,a14⟩) rfl,bd4]
    replace hbare : (⟨4,fr,to_,a4,a5,a6,a7,a8,a9,a10,a11,a12,a13,a14⟩ : GMsg) = ⟨4,fr,to_,a4,a5,[],zEn,0,zV,0,0,[],zEp,zPt⟩ := hbare
    rw [hbare]
    simp only [List.append_assoc]
    simp only [zg3 hg h.ba,z19 (cnt64 h.slot)]
  · rw [bdF5 (m := ⟨5,fr,to_,a4,a5,a6,a7,a8,a9,a10,a11,a12,a13,a14⟩) rfl,bd5]
    replace hbare : (⟨5,fr,to_,a4,a5,a6,a7,a8,a9,a10,a11,a12,a13,a14⟩ : GMsg) = ⟨5,fr,to_,a4,0,[],zEn,0,zV,0,0,[],zEp,zPt⟩ := hbare
    rw [hbare]
    simp only [List.append_assoc]
    simp only [zg3 hg h.ba]
  · rw [bdF6 (m := ⟨6,fr,to_,a4,a5,a6,a7,a8,a9,a10,a11,a12,a13,a14⟩) rfl,bd6]
    replace hbare : (⟨6,fr,to_,a4,a5,a6,a7,a8,a9,a10,a11,a12,a13,a14⟩ : GMsg) = ⟨6,fr,to_,zBa,0,a6,zEn,0,zV,0,0,[],zEp,zPt⟩ := hbare
    rw [hbare]
    simp only [List.append_assoc]
    simp only [zvl hg (hs.2.2.1 rfl).1 (hs.2.2.1 rfl).2]
  · rw [bdF7 (m := ⟨7,fr,to_,a4,a5,a6,a7,a8,a9,a10,a11,a12,a13,a14⟩) rfl,bd7]
    replace hbare : (⟨7,fr,to_,a4,a5,a6,a7,a8,a9,a10,a11,a12,a13,a14⟩ : GMsg) = ⟨7,fr,to_,a4,a5,[],zEn,0,zV,0,0,[],zEp,zPt⟩ := hbare
    rw [hbare]
    simp only [List.append_assoc]
    simp only [zg3 hg h.ba,z19 (cnt64 h.slot)]
  · rw [bdF8 (m := ⟨8,fr,to_,a4,a5,a6,a7,a8,a9,a10,a11,a12,a13,a14⟩) rfl,bd8]
    replace hbare : (⟨8,fr,to_,a4,a5,a6,a7,a8,a9,a10,a11,a12,a13,a14⟩ : GMsg) = ⟨8,fr,to_,zBa,a5,[],zEn,0,zV,0,0,[],zEp,zPt⟩ := hbare
    rw [hbare]
    simp only [List.append_assoc]
    simp only [z19 (cnt64 h.slot)]
  · rw [bdF9 (m := ⟨9,fr,to_,a4,a5,a6,a7,a8,a9,a10,a11,a12,a13,a14⟩) rfl,bd9]
    replace hbare : (⟨9,fr,to_,a4,a5,a6,a7,a8,a9,a10,a11,a12,a13,a14⟩ : GMsg) = ⟨9,fr,to_,zBa,0,[],a7,0,zV,0,0,[],zEp,zPt⟩ := hbare
    rw [hbare]
    simp only [List.append_assoc]
    simp only [zvk hg (hs.2.2.2.1 rfl)]
  · rw [bdF10 (m := ⟨10,fr,to_,a4,a5,a6,a7,a8,a9,a10,a11,a12,a13,a14⟩) rfl,bd10]
    replace hbare : (⟨10,fr,to_,a4,a5,a6,a7,a8,a9,a10,a11,a12,a13,a14⟩ : GMsg) = ⟨10,fr,to_,zBa,0,[],zEn,a8,a9,a10,0,[],zEp,zPt⟩ := hbare
    rw [hbare]
    simp only [List.append_assoc]
    simp only [z19 (cnt64 h.number),zkm (fun n hn => cnt64 (h.vec n hn)),z19 (cnt64 h.clock)]
  · rw [bdF11 (m := ⟨11,fr,to_,a4,a5,a6,a7,a8,a9,a10,a11,a12,a13,a14⟩) rfl,bd11]
    replace hbare : (⟨11,fr,to_,a4,a5,a6,a7,a8,a9,a10,a11,a12,a13,a14⟩ : GMsg) = ⟨11,fr,to_,zBa,a5,[],zEn,a8,zV,0,a11,a12,zEp,zPt⟩ := hbare
    have q := hs.2.2.2.2.1 rfl
    simp only at q
    rw [hbare]
    simp only [List.append_assoc]
    simp only [z19 (cnt64 h.number),z19 (sit64 q.1),hg.of _ (ob q.1),z19 (cnt64 h.slot),z10s hg q.2.2.1 q.2.2.2]
  · rw [bdF12 (m := ⟨12,fr,to_,a4,a5,a6,a7,a8,a9,a10,a11,a12,a13,a14⟩) rfl,bd12]
    replace hbare : (⟨12,fr,to_,a4,a5,a6,a7,a8,a9,a10,a11,a12,a13,a14⟩ : GMsg) = ⟨12,fr,to_,zBa,0,[],zEn,0,zV,0,0,[],a13,zPt⟩ := hbare
    rw [hbare]
    simp only [List.append_assoc]
    simp only [z10t hg (hs.2.2.2.2.2.1 rfl)]
  · rw [bdF13 (m := ⟨13,fr,to_,a4,a5,a6,a7,a8,a9,a10,a11,a12,a13,a14⟩) rfl,bd13]
    replace hbare : (⟨13,fr,to_,a4,a5,a6,a7,a8,a9,a10,a11,a12,a13,a14⟩ : GMsg) = ⟨13,fr,to_,zBa,0,[],zEn,0,zV,0,0,[],zEp,a14⟩ := hbare
    rw [hbare]
    simp only [List.append_assoc]
    simp only [zz4 hg (hs.2.2.2.2.2.2.1 rfl)]
  · rw [bdF14 (m := ⟨14,fr,to_,a4,a5,a6,a7,a8,a9,a10,a11,a12,a13,a14⟩) rfl,bd14]
    replace hbare : (⟨14,fr,to_,a4,a5,a6,a7,a8,a9,a10,a11,a12,a13,a14⟩ : GMsg) = ⟨14,fr,to_,zBa,0,[],zEn,a8,a9,0,0,[],zEp,zPt⟩ := hbare
    rw [hbare]
    simp only [List.append_assoc]
    simp only [z19 (cnt64 h.number),zkm (fun n hn => cnt64 (h.vec n hn))]
  · rw [bdF15 (m := ⟨15,fr,to_,a4,a5,a6,a7,a8,a9,a10,a11,a12,a13,a14⟩) rfl,bd15]
    replace hbare : (⟨15,fr,to_,a4,a5,a6,a7,a8,a9,a10,a11,a12,a13,a14⟩ : GMsg) = ⟨15,fr,to_,zBa,a5,[],zEn,0,zV,0,0,[],zEp,a14⟩ := hbare
    rw [hbare]
    simp only [List.append_assoc]
    simp only [z19 (cnt64 h.slot),zz4 hg (hs.2.2.2.2.2.2.2 rfl)]
theorem rdMs_back (hg : SmOk g) {m : GMsg} (hb : bytM m) (h : MayMs m) (rest : List Int) : rdMs g (0,msB m ++ rest) = (m,(0,rest)) := by
  have hk := h.kind
  unfold kindM at hk
  rw [msF]
  simp only [List.append_assoc]
  unfold rdMs
  rw [z19 (k64 h.kind)]
  simp only [hg.of m.Kind (by omega)]
  rw [if_neg (by rintro ⟨_,h⟩; omega)]
  rw [z10x hg h.from_]
  simp only
  rw [z10x hg h.to_]
  simp only
  exact rdBd_back hg hb h rest
end
end Go.Proofs.YteinehkdjkobnaaGreat
