/-
A message's bytes by its kind; what Marshal answers,the program's and the document's.
-/
import Derived.Test.YteinehkdjkobnaaGreatqUa
set_option linter.unusedVariables false
set_option linter.unusedSimpArgs false
namespace Go.Proofs.YteinehkdjkobnaaGreat
open Go Go.Ev
def bdC (m : GMsg) : List (List Int) :=
  bif m.Kind == 1 then baC m.Ballot ++ [m.Slot].map pI else
  bif m.Kind == 2 then baC m.Ballot ++ [m.Slot].map pI ++ lsC m.List_ else
  bif m.Kind == 3 then baC m.Ballot ++ lsC m.List_ else
  bif m.Kind == 4 then baC m.Ballot ++ [m.Slot].map pI else
  bif m.Kind == 5 then baC m.Ballot else
  bif m.Kind == 6 then lsC m.List_ else
  bif m.Kind == 7 then baC m.Ballot ++ [m.Slot].map pI else
  bif m.Kind == 8 then [m.Slot].map pI else
  bif m.Kind == 9 then enC m.Entry else
  bif m.Kind == 10 then [m.Number].map pI ++ m.Vector_.toList.map pI ++ [m.Clock].map pI else
  bif m.Kind == 11 then [m.Number].map pI ++ [m.Origin].map pI ++ [m.Slot].map pI ++ opsC m.Ops else
  bif m.Kind == 12 then epC m.Epoch else
  bif m.Kind == 13 then ptC m.Part else
  bif m.Kind == 14 then [m.Number].map pI ++ m.Vector_.toList.map pI else
  bif m.Kind == 15 then [m.Slot].map pI ++ ptC m.Part else
  []
def hdC (m : GMsg) : List (List Int) := [m.Kind].map pI ++ [m.From.Group,m.From.Replica].map pI ++ [m.To.Group,m.To.Replica].map pI
def msC (m : GMsg) : List (List Int) := hdC m ++ bdC m
def msB (m : GMsg) : List Int := (msC m).flatten
structure MayMs (m : GMsg) : Prop where
  kind : kindM m
  bare : m = bareM m
  from_ : MayAd m.From
  to_ : MayAd m.To
  ba : MayBa m.Ballot
  slot : cnt m.Slot
  number : cnt m.Number
  clock : cnt m.Clock
  vec : zct m.Vector_
  sp : sp2 m = true
theorem byt_bareM {m : GMsg} (h : bytM m) : bytM (bareM m) := by
  obtain ⟨h1,h2,h3⟩ := h
  have r1 : ∀ x ∈ ([] : List zd),byt x.Entry.Part.Data := fun x hx => by cases hx
  have r2 : byt zEn.Part.Data := fun x hx => by cases hx
  have r4 : byt zPt.Data := fun x hx => by cases hx
  unfold bareM
  repeat' (refine (show ∀ (c : Bool) (x y : GMsg),bytM x → bytM y → bytM (bif c then x else y) from fun c x y hx hy => by cases c <;> assumption) _ _ _ ?_ ?_)
  all_goals exact ⟨by first | exact h1 | exact r1,by first | exact h2 | exact r2,by first | exact h3 | exact r4⟩
theorem zzv {m : GMsg} (hb : bytM m) : mayM m = true ↔ MayMs m := by
  unfold mayM numM
  simp only [Bool.and_eq_true,decide_eq_true_eq]
  rw [zs0 hb (byt_bareM hb)]
  constructor
  · rintro ⟨⟨⟨⟨h1,h2⟩,h3,h4⟩,⟨h5,⟨h6,h7⟩,h8⟩,h9⟩,h10⟩
    exact ⟨h1,h2,h3,h4,h5,h6,h7,h8,h9,h10⟩
  · rintro ⟨h1,h2,h3,h4,h5,h6,h7,h8,h9,h10⟩
    exact ⟨⟨⟨⟨h1,h2⟩,h3,h4⟩,⟨h5,⟨h6,h7⟩,h8⟩,h9⟩,h10⟩
theorem maySl_iff {x : zd} (hb : byt x.Entry.Part.Data) : maySl x = true ↔ MaySl x := by
  unfold maySl MaySl
  simp only [Bool.and_eq_true,decide_eq_true_eq,zl7 hb]
  exact and_assoc
theorem zwe {l : List zd} (hb : ∀ x ∈ l,byt x.Entry.Part.Data) {a b : Int} (h : za6 l a b = true) : (a ≤ (l.length : Int) ∧ (l.length : Int) ≤ b) ∧ ∀ x ∈ l,MaySl x := by
  unfold za6 at h
  simp only [Bool.and_eq_true,decide_eq_true_eq,List.all_eq_true] at h
  exact ⟨h.1,fun x hx => (maySl_iff (hb x hx)).1 (h.2 x hx)⟩
section
variable {N : Nat} {e0 : Int} {w : List Int}
def spP (m : GMsg) : Prop :=
  (m.Kind = 2 → m.List_.length ≤ 4096 ∧ ∀ x ∈ m.List_,MaySl x) ∧ (m.Kind = 3 → m.List_.length ≤ 4096 ∧ ∀ x ∈ m.List_,MaySl x) ∧ (m.Kind = 6 → m.List_.length ≤ 4096 ∧ ∀ x ∈ m.List_,MaySl x) ∧
  (m.Kind = 9 → MayEn m.Entry) ∧ (m.Kind = 11 → sit m.Origin ∧ zcu m.Ops) ∧ (m.Kind = 12 → MayEp m.Epoch) ∧ (m.Kind = 13 → MayPt m.Part) ∧ (m.Kind = 15 → MayPt m.Part)
theorem spP_of {m : GMsg} (hb : bytM m) (h : sp2 m = true) : spP m := by
  unfold sp2 at h
  refine ⟨fun e => ?_,fun e => ?_,fun e => ?_,fun e => ?_,fun e => ?_,fun e => ?_,fun e => ?_,fun e => ?_⟩ <;> rw [e] at h <;> simp only [Int.reduceBEq,cond_true,cond_false] at h
  · obtain ⟨⟨_,h1⟩,h2⟩ := zwe hb.1 h; exact ⟨by omega,h2⟩
  · obtain ⟨⟨_,h1⟩,h2⟩ := zwe hb.1 h; exact ⟨by omega,h2⟩
  · obtain ⟨⟨_,h1⟩,h2⟩ := zwe hb.1 h; exact ⟨by omega,h2⟩
  · exact (zl7 hb.2.1).1 h
  · simpa using h
  · simpa using h
  · simpa using h
  · simpa using h
theorem ad64 {a : GAddr} (h : MayAd a) : R64 a.Group ∧ R64 a.Replica := by
  obtain ⟨⟨h1,h2⟩,h3,h4⟩ := h
  exact ⟨⟨by omega,by omega⟩,⟨by omega,by omega⟩⟩
theorem k64 {m : GMsg} (h : kindM m) : R64 m.Kind := ⟨by have := h.1; omega,by have := h.2; omega⟩
theorem msgw_eq (hN : 20 ≤ N) {m : GMsg} (hr : roomM N m) (h : MayMs m) (hw : w.length ≤ 1048576) : z6b N m e0 true w = some (wr e0 w (msC m)) := by
  have hs := spP_of hr.byt h.sp
  have hk' := z11s h.kind
  unfold z6b
  rw [zp5 hN (k64 h.kind) hw,Option.bind_some,z2t,adw_eq hN h.from_ (z1t hw _),z1l,Option.bind_some,z2t,adw_eq hN h.to_ (z1t hw _),z1l,Option.bind_some,z2t]
  have e0' : msC m = ([m.Kind].map pI ++ [m.From.Group,m.From.Replica].map pI ++ [m.To.Group,m.To.Replica].map pI) ++ bdC m := rfl
  rw [e0']
  generalize ([m.Kind].map pI ++ [m.From.Group,m.From.Replica].map pI ++ [m.To.Group,m.To.Replica].map pI) = H
  rcases hk' with hk | hk | hk | hk | hk | hk | hk | hk | hk | hk | hk | hk | hk | hk | hk
  · have e1 : bdC m = baC m.Ballot ++ [m.Slot].map pI := by unfold bdC; rw [hk]; rfl
    rw [hk]; simp only [Int.reduceBEq,cond_true,cond_false]
    rw [zwd hN h.ba (z1t hw _),z1l,Option.bind_some,z2t,ints1 hN (cnt64 h.slot) (z1t hw _),z1l,Option.bind_some]
    first | (rw [e1]; done) | (rw [e1]; rfl) | (rw [e1]; simp only [List.append_assoc]; done) | (rw [e1]; simp only [List.append_assoc]; rfl)
  · have e1 : bdC m = baC m.Ballot ++ [m.Slot].map pI ++ lsC m.List_ := by unfold bdC; rw [hk]; rfl
    obtain ⟨q1,q2⟩ := hs.1 hk
    rw [hk]; simp only [Int.reduceBEq,cond_true,cond_false]
    rw [zwd hN h.ba (z1t hw _),z1l,Option.bind_some,z2t,ints1 hN (cnt64 h.slot) (z1t hw _),z1l,Option.bind_some,z2t,lsw_eq hr.1 q1 q2 (z1t hw _),z1l,Option.bind_some]
    first | (rw [e1]; done) | (rw [e1]; rfl) | (rw [e1]; simp only [List.append_assoc]; done) | (rw [e1]; simp only [List.append_assoc]; rfl)
  · have e1 : bdC m = baC m.Ballot ++ lsC m.List_ := by unfold bdC; rw [hk]; rfl
    obtain ⟨q1,q2⟩ := hs.2.1 hk
    rw [hk]; simp only [Int.reduceBEq,cond_true,cond_false]
    rw [zwd hN h.ba (z1t hw _),z1l,Option.bind_some,z2t,lsw_eq hr.1 q1 q2 (z1t hw _),z1l,Option.bind_some]
    first | (rw [e1]; done) | (rw [e1]; rfl) | (rw [e1]; simp only [List.append_assoc]; done) | (rw [e1]; simp only [List.append_assoc]; rfl)
  · have e1 : bdC m = baC m.Ballot ++ [m.Slot].map pI := by unfold bdC; rw [hk]; rfl
    rw [hk]; simp only [Int.reduceBEq,cond_true,cond_false]
    rw [zwd hN h.ba (z1t hw _),z1l,Option.bind_some,z2t,ints1 hN (cnt64 h.slot) (z1t hw _),z1l,Option.bind_some]
    first | (rw [e1]; done) | (rw [e1]; rfl) | (rw [e1]; simp only [List.append_assoc]; done) | (rw [e1]; simp only [List.append_assoc]; rfl)
  · have e1 : bdC m = baC m.Ballot := by unfold bdC; rw [hk]; rfl
    rw [hk]; simp only [Int.reduceBEq,cond_true,cond_false]
    rw [zwd hN h.ba (z1t hw _),z1l,Option.bind_some]
    first | (rw [e1]; done) | (rw [e1]; rfl) | (rw [e1]; simp only [List.append_assoc]; done) | (rw [e1]; simp only [List.append_assoc]; rfl)
  · have e1 : bdC m = lsC m.List_ := by unfold bdC; rw [hk]; rfl
    obtain ⟨q1,q2⟩ := hs.2.2.1 hk
    rw [hk]; simp only [Int.reduceBEq,cond_true,cond_false]
    rw [lsw_eq hr.1 q1 q2 (z1t hw _),z1l,Option.bind_some]
    first | (rw [e1]; done) | (rw [e1]; rfl) | (rw [e1]; simp only [List.append_assoc]; done) | (rw [e1]; simp only [List.append_assoc]; rfl)
  · have e1 : bdC m = baC m.Ballot ++ [m.Slot].map pI := by unfold bdC; rw [hk]; rfl
    rw [hk]; simp only [Int.reduceBEq,cond_true,cond_false]
    rw [zwd hN h.ba (z1t hw _),z1l,Option.bind_some,z2t,ints1 hN (cnt64 h.slot) (z1t hw _),z1l,Option.bind_some]
    first | (rw [e1]; done) | (rw [e1]; rfl) | (rw [e1]; simp only [List.append_assoc]; done) | (rw [e1]; simp only [List.append_assoc]; rfl)
  · have e1 : bdC m = [m.Slot].map pI := by unfold bdC; rw [hk]; rfl
    rw [hk]; simp only [Int.reduceBEq,cond_true,cond_false]
    rw [ints1 hN (cnt64 h.slot) (z1t hw _),z1l,Option.bind_some]
    first | (rw [e1]; done) | (rw [e1]; rfl) | (rw [e1]; simp only [List.append_assoc]; done) | (rw [e1]; simp only [List.append_assoc]; rfl)
  · have e1 : bdC m = enC m.Entry := by unfold bdC; rw [hk]; rfl
    rw [hk]; simp only [Int.reduceBEq,cond_true,cond_false]
    rw [z11q hr.2.1.1 (hs.2.2.2.1 hk) (z1t hw _),z1l,Option.bind_some]
    first | (rw [e1]; done) | (rw [e1]; rfl) | (rw [e1]; simp only [List.append_assoc]; done) | (rw [e1]; simp only [List.append_assoc]; rfl)
  · have e1 : bdC m = [m.Number].map pI ++ m.Vector_.toList.map pI ++ [m.Clock].map pI := by unfold bdC; rw [hk]; rfl
    rw [hk]; simp only [Int.reduceBEq,cond_true,cond_false]
    rw [ints1 hN (cnt64 h.number) (z1t hw _),z1l,Option.bind_some,z2t,ints8 hN (fun n hn => cnt64 (h.vec n hn)) (z1t hw _),z1l,Option.bind_some,z2t,ints1 hN (cnt64 h.clock) (z1t hw _),z1l,Option.bind_some]
    first | (rw [e1]; done) | (rw [e1]; rfl) | (rw [e1]; simp only [List.append_assoc]; done) | (rw [e1]; simp only [List.append_assoc]; rfl)
  · have e1 : bdC m = [m.Number].map pI ++ [m.Origin].map pI ++ [m.Slot].map pI ++ opsC m.Ops := by unfold bdC; rw [hk]; rfl
    obtain ⟨q1,q2⟩ := hs.2.2.2.2.1 hk
    rw [hk]; simp only [Int.reduceBEq,cond_true,cond_false]
    rw [ints1 hN (cnt64 h.number) (z1t hw _),z1l,Option.bind_some,z2t,zp5 hN (sit64 q1) (z1t hw _),z1l,Option.bind_some,z2t,ints1 hN (cnt64 h.slot) (z1t hw _),z1l,Option.bind_some,z2t,opsw_eq hr.2.2.1.1 q2 (z1t hw _),z1l,Option.bind_some]
    first | (rw [e1]; done) | (rw [e1]; rfl) | (rw [e1]; simp only [List.append_assoc]; done) | (rw [e1]; simp only [List.append_assoc]; rfl)
  · have e1 : bdC m = epC m.Epoch := by unfold bdC; rw [hk]; rfl
    rw [hk]; simp only [Int.reduceBEq,cond_true,cond_false]
    rw [epw_eq hN (hs.2.2.2.2.2.1 hk) (z1t hw _),z1l,Option.bind_some]
    first | (rw [e1]; done) | (rw [e1]; rfl) | (rw [e1]; simp only [List.append_assoc]; done) | (rw [e1]; simp only [List.append_assoc]; rfl)
  · have e1 : bdC m = ptC m.Part := by unfold bdC; rw [hk]; rfl
    rw [hk]; simp only [Int.reduceBEq,cond_true,cond_false]
    rw [ptw_eq hN (hs.2.2.2.2.2.2.1 hk) (z1t hw _),z1l,Option.bind_some]
    first | (rw [e1]; done) | (rw [e1]; rfl) | (rw [e1]; simp only [List.append_assoc]; done) | (rw [e1]; simp only [List.append_assoc]; rfl)
  · have e1 : bdC m = [m.Number].map pI ++ m.Vector_.toList.map pI := by unfold bdC; rw [hk]; rfl
    rw [hk]; simp only [Int.reduceBEq,cond_true,cond_false]
    rw [ints1 hN (cnt64 h.number) (z1t hw _),z1l,Option.bind_some,z2t,ints8 hN (fun n hn => cnt64 (h.vec n hn)) (z1t hw _),z1l,Option.bind_some]
    first | (rw [e1]; done) | (rw [e1]; rfl) | (rw [e1]; simp only [List.append_assoc]; done) | (rw [e1]; simp only [List.append_assoc]; rfl)
  · have e1 : bdC m = [m.Slot].map pI ++ ptC m.Part := by unfold bdC; rw [hk]; rfl
    rw [hk]; simp only [Int.reduceBEq,cond_true,cond_false]
    rw [ints1 hN (cnt64 h.slot) (z1t hw _),z1l,Option.bind_some,z2t,ptw_eq hN (hs.2.2.2.2.2.2.2 hk) (z1t hw _),z1l,Option.bind_some]
    first | (rw [e1]; done) | (rw [e1]; rfl) | (rw [e1]; simp only [List.append_assoc]; done) | (rw [e1]; simp only [List.append_assoc]; rfl)
theorem sl_CB {x : zd} (h : MaySl x) (hb : byt x.Entry.Part.Data) : CB (slC x) :=
  ((CB.int1 (cnt64 h.1)).append ((CB.int1 (ba64 h.2.1).1).append (CB.int1 (ba64 h.2.1).2))).append (CB.en h.2.2 hb)
theorem ls_CB {l : List zd} (hl : l.length ≤ 4096) (h : ∀ x ∈ l,MaySl x) (hb : ∀ x ∈ l,byt x.Entry.Part.Data) : CB (lsC l) :=
  (CB.int1 ⟨by omega,by omega⟩).append fun c hc => by
    obtain ⟨cs,hcs,hc⟩ := List.mem_flatten.1 hc
    obtain ⟨o,ho,rfl⟩ := List.mem_map.1 hcs
    exact sl_CB (h o ho) (hb o ho) c hc
theorem ms_CB {m : GMsg} (hb : bytM m) (h : MayMs m) : CB (msC m) := by
  have hs := spP_of hb h.sp
  have hk' := z11s h.kind
  refine (((CB.int1 (k64 h.kind)).append (CB.int2 (ad64 h.from_).1 (ad64 h.from_).2)).append (CB.int2 (ad64 h.to_).1 (ad64 h.to_).2)).append ?_
  rcases hk' with hk | hk | hk | hk | hk | hk | hk | hk | hk | hk | hk | hk | hk | hk | hk
  · rw [show bdC m = baC m.Ballot ++ [m.Slot].map pI by unfold bdC; rw [hk]; rfl]
    exact ((((CB.int1 (ba64 h.ba).1).append (CB.int1 (ba64 h.ba).2))).append (CB.int1 (cnt64 h.slot)))
  · rw [show bdC m = baC m.Ballot ++ [m.Slot].map pI ++ lsC m.List_ by unfold bdC; rw [hk]; rfl]
    obtain ⟨q1,q2⟩ := hs.1 hk
    exact (((((CB.int1 (ba64 h.ba).1).append (CB.int1 (ba64 h.ba).2))).append (CB.int1 (cnt64 h.slot))).append (ls_CB q1 q2 hb.1))
  · rw [show bdC m = baC m.Ballot ++ lsC m.List_ by unfold bdC; rw [hk]; rfl]
    obtain ⟨q1,q2⟩ := hs.2.1 hk
    exact ((((CB.int1 (ba64 h.ba).1).append (CB.int1 (ba64 h.ba).2))).append (ls_CB q1 q2 hb.1))
  · rw [show bdC m = baC m.Ballot ++ [m.Slot].map pI by unfold bdC; rw [hk]; rfl]
    exact ((((CB.int1 (ba64 h.ba).1).append (CB.int1 (ba64 h.ba).2))).append (CB.int1 (cnt64 h.slot)))
  · rw [show bdC m = baC m.Ballot by unfold bdC; rw [hk]; rfl]
    exact (((CB.int1 (ba64 h.ba).1).append (CB.int1 (ba64 h.ba).2)))
  · rw [show bdC m = lsC m.List_ by unfold bdC; rw [hk]; rfl]
    obtain ⟨q1,q2⟩ := hs.2.2.1 hk
    exact (ls_CB q1 q2 hb.1)
  · rw [show bdC m = baC m.Ballot ++ [m.Slot].map pI by unfold bdC; rw [hk]; rfl]
    exact ((((CB.int1 (ba64 h.ba).1).append (CB.int1 (ba64 h.ba).2))).append (CB.int1 (cnt64 h.slot)))
  · rw [show bdC m = [m.Slot].map pI by unfold bdC; rw [hk]; rfl]
    exact (CB.int1 (cnt64 h.slot))
  · rw [show bdC m = enC m.Entry by unfold bdC; rw [hk]; rfl]
    exact (CB.en (hs.2.2.2.1 hk) hb.2.1)
  · rw [show bdC m = [m.Number].map pI ++ m.Vector_.toList.map pI ++ [m.Clock].map pI by unfold bdC; rw [hk]; rfl]
    exact (((CB.int1 (cnt64 h.number)).append (CB.ints (fun n hn => cnt64 (h.vec n hn)))).append (CB.int1 (cnt64 h.clock)))
  · rw [show bdC m = [m.Number].map pI ++ [m.Origin].map pI ++ [m.Slot].map pI ++ opsC m.Ops by unfold bdC; rw [hk]; rfl]
    obtain ⟨q1,q2⟩ := hs.2.2.2.2.1 hk
    exact ((((CB.int1 (cnt64 h.number)).append (CB.int1 (sit64 q1))).append (CB.int1 (cnt64 h.slot))).append (CB.ops q2))
  · rw [show bdC m = epC m.Epoch by unfold bdC; rw [hk]; rfl]
    exact (CB.ep (hs.2.2.2.2.2.1 hk))
  · rw [show bdC m = ptC m.Part by unfold bdC; rw [hk]; rfl]
    exact (CB.pt (hs.2.2.2.2.2.2.1 hk) hb.2.2)
  · rw [show bdC m = [m.Number].map pI ++ m.Vector_.toList.map pI by unfold bdC; rw [hk]; rfl]
    exact ((CB.int1 (cnt64 h.number)).append (CB.ints (fun n hn => cnt64 (h.vec n hn))))
  · rw [show bdC m = [m.Slot].map pI ++ ptC m.Part by unfold bdC; rw [hk]; rfl]
    exact ((CB.int1 (cnt64 h.slot)).append (CB.pt (hs.2.2.2.2.2.2.2 hk) hb.2.2))
theorem msB_byt {m : GMsg} (hb : bytM m) (h : MayMs m) : byt (msB m) := (ms_CB hb h).flat
theorem z144 (hN : 1048700 ≤ N) {m : GMsg} (hr : roomM N m) :
    (MayMs m ∧ (msB m).length ≤ 1048576 ∧ z7y N m = some (z1s (msB m),0)) ∨ (MayMs m ∧ 1048576 < (msB m).length ∧ z7y N m = some ([],3)) ∨ (¬ MayMs m ∧ z7y N m = some ([],40)) := by
  unfold z7y zci
  rw [z12n (by omega) hr,Option.bind_some]
  by_cases hm : MayMs m
  · rw [(zzv hr.byt).2 hm]
    simp only [cond_true,beq_self_eq_true,Bool.not_true,cond_false,Option.bind_some]
    rw [msgw_eq (by omega) hr hm (by simp),Option.bind_some]
    by_cases h : (msB m).length ≤ 1048576
    · refine .inl ⟨hm,h,?_⟩
      rw [wr_fit (by simpa [msB] using h)]
      simp only [beq_self_eq_true,Bool.not_true,cond_false,List.nil_append]
      rw [F20_eq (by simpa [msB] using h),Option.bind_some]
      show (zfd N (msB m)).bind _ = _
      rw [F35_eq (by omega) (msB_byt hr.byt hm),if_neg (by omega)]
      rfl
    · refine .inr (.inl ⟨hm,by omega,?_⟩)
      have : (wr 0 [] (msC m)).1 = 3 := z11l _ _ (by simp) (by simp only [List.length_nil]; unfold msB at h; omega)
      rw [this]; rfl
  · refine .inr (.inr ⟨hm,?_⟩)
    have : mayM m = false := by rw [Bool.eq_false_iff]; exact fun e => hm ((zzv hr.byt).1 e)
    rw [this]; rfl
theorem z145 (s : Int) : byt (four s) := four_byte s
theorem z11d {b : List Int} (hl : b.length ≤ 1048576) (hb : byt b) : byt (z1s b) := fun x hx => by
  unfold z1s at hx
  rcases List.mem_append.1 hx with hx | hx
  · rcases List.mem_append.1 hx with hx | hx
    · exact pI_byt (n := (b.length : Int)) ⟨by omega,by omega⟩ x hx
    · exact hb x hx
  · exact z145 _ x hx
end
end Go.Proofs.YteinehkdjkobnaaGreat
