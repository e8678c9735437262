/-
A message's bytes by its kind; what Marshal answers,the program's and the document's.
-/
import Derived.Test.YteinehkdjkobnaaGreatqUa
set_option linter.unusedVariables false
set_option linter.unusedSimpArgs false
namespace Go.Proofs.YteinehkdjkobnaaGreat
open Go Go.Ev
def bdC (m : GMsg) : List (List Int) :=
  bif m.Kind == 1 then baC m.Ballot ++ [m.Slot].map pI else
  bif m.Kind == 2 then baC m.Ballot ++ [m.Slot].map pI ++ lsC m.List_ else
  bif m.Kind == 3 then baC m.Ballot ++ lsC m.List_ else
  bif m.Kind == 4 then baC m.Ballot ++ [m.Slot].map pI else
  bif m.Kind == 5 then baC m.Ballot else
  bif m.Kind == 6 then lsC m.List_ else
  bif m.Kind == 7 then baC m.Ballot ++ [m.Slot].map pI else
  bif m.Kind == 8 then [m.Slot].map pI else
  bif m.Kind == 9 then enC m.Entry else
  bif m.Kind == 10 then [m.Number].map pI ++ m.Vector_.toList.map pI ++ [m.Clock].map pI else
  bif m.Kind == 11 then [m.Number].map pI ++ [m.Origin].map pI ++ [m.Slot].map pI ++ opsC m.Ops else
  bif m.Kind == 12 then epC m.Epoch else
  bif m.Kind == 13 then ptC m.Part else
  bif m.Kind == 14 then [m.Number].map pI ++ m.Vector_.toList.map pI else
  bif m.Kind == 15 then [m.Slot].map pI ++ ptC m.Part else
  []
def hdC (m : GMsg) : List (List Int) := [m.Kind].map pI ++ [m.From.Group,m.From.Replica].map pI ++ [m.To.Group,m.To.Replica].map pI
def msC (m : GMsg) : List (List Int) := hdC m ++ bdC m
def msB (m : GMsg) : List Int := (msC m).flatten
structure MayMs (m : GMsg) : Prop where
  kind : kindM m
  bare : m = bareM m
  from_ : MayAd m.From
  to_ : MayAd m.To
  ba : MayBa m.Ballot
  slot : cnt m.Slot
  number : cnt m.Number
  clock : cnt m.Clock
  vec : zbm m.Vector_
  sp : sp2 m = true
theorem byt_bareM {m : GMsg} (h : bytM m) : bytM (bareM m) := by
  obtain ⟨h1,h2,h3⟩ := h
  have r1 : ∀ x ∈ ([] : List zd),byt x.Entry.Part.Data := fun x hx => by cases hx
  have r2 : byt zEn.Part.Data := fun x hx => by cases hx
  have r4 : byt zPt.Data := fun x hx => by cases hx
  unfold bareM
  repeat' (refine (show ∀ (c : Bool) (x y : GMsg),bytM x → bytM y → bytM (bif c then x else y) from fun c x y hx hy => by cases c <;> assumption) _ _ _ ?_ ?_)
  all_goals exact ⟨by first | exact h1 | exact r1,by first | exact h2 | exact r2,by first | exact h3 | exact r4⟩
theorem znn {m : GMsg} (hb : bytM m) : mayM m = true ↔ MayMs m := by
  unfold mayM numM
  simp only [Bool.and_eq_true,decide_eq_true_eq]
  rw [znj hb (byt_bareM hb)]
  constructor
  · rintro ⟨⟨⟨⟨h1,h2⟩,h3,h4⟩,⟨h5,⟨h6,h7⟩,h8⟩,h9⟩,h10⟩
    exact ⟨h1,h2,h3,h4,h5,h6,h7,h8,h9,h10⟩
  · rintro ⟨h1,h2,h3,h4,h5,h6,h7,h8,h9,h10⟩
    exact ⟨⟨⟨⟨h1,h2⟩,h3,h4⟩,⟨h5,⟨h6,h7⟩,h8⟩,h9⟩,h10⟩
theorem maySl_iff {x : zd} (hb : byt x.Entry.Part.Data) : maySl x = true ↔ MaySl x := by
  unfold maySl MaySl
  simp only [Bool.and_eq_true,decide_eq_true_eq,zdq hb]
  exact and_assoc
theorem zvi {l : List zd} (hb : ∀ x ∈ l,byt x.Entry.Part.Data) {a b : Int} (h : zag l a b = true) : (a ≤ (l.length : Int) ∧ (l.length : Int) ≤ b) ∧ ∀ x ∈ l,MaySl x := by
  unfold zag at h
  simp only [Bool.and_eq_true,decide_eq_true_eq,List.all_eq_true] at h
  exact ⟨h.1,fun x hx => (maySl_iff (hb x hx)).1 (h.2 x hx)⟩
section
variable {N : Nat} {e0 : Int} {w : List Int}
def spP (m : GMsg) : Prop :=
  (m.Kind = 2 → m.List_.length ≤ 4096 ∧ ∀ x ∈ m.List_,MaySl x) ∧ (m.Kind = 3 → m.List_.length ≤ 4096 ∧ ∀ x ∈ m.List_,MaySl x) ∧ (m.Kind = 6 → m.List_.length ≤ 4096 ∧ ∀ x ∈ m.List_,MaySl x) ∧
  (m.Kind = 9 → MayEn m.Entry) ∧ (m.Kind = 11 → sit m.Origin ∧ zbn m.Ops) ∧ (m.Kind = 12 → MayEp m.Epoch) ∧ (m.Kind = 13 → MayPt m.Part) ∧ (m.Kind = 15 → MayPt m.Part)
theorem spP_of {m : GMsg} (hb : bytM m) (h : sp2 m = true) : spP m := by
  unfold sp2 at h
  refine ⟨fun e => ?_,fun e => ?_,fun e => ?_,fun e => ?_,fun e => ?_,fun e => ?_,fun e => ?_,fun e => ?_⟩ <;> rw [e] at h <;> simp only [Int.reduceBEq,cond_true,cond_false] at h
  · obtain ⟨⟨_,h1⟩,h2⟩ := zvi hb.1 h; exact ⟨by omega,h2⟩
  · obtain ⟨⟨_,h1⟩,h2⟩ := zvi hb.1 h; exact ⟨by omega,h2⟩
  · obtain ⟨⟨_,h1⟩,h2⟩ := zvi hb.1 h; exact ⟨by omega,h2⟩
  · exact (zdq hb.2.1).1 h
  · simpa using h
  · simpa using h
  · simpa using h
  · simpa using h
theorem ad64 {a : GAddr} (h : MayAd a) : R64 a.Group ∧ R64 a.Replica := by
  obtain ⟨⟨h1,h2⟩,h3,h4⟩ := h
  exact ⟨⟨by omega,by omega⟩,⟨by omega,by omega⟩⟩
theorem zz1 (b : zh) : (baC b).flatten = ([b.Round,b.Replica].map pI).flatten := by simp [baC]
theorem k64 {m : GMsg} (h : kindM m) : R64 m.Kind := ⟨by have := h.1; omega,by have := h.2; omega⟩
theorem msgw_eq (hN : 20 ≤ N) {m : GMsg} (hr : roomM N m) (h : MayMs m) (hw : w.length ≤ 1048576) : z6l N m e0 true w = some (wr e0 w (msC m)) := by
  have hs := spP_of hr.byt h.sp
  have hk' := zxo h.kind
  unfold z6l
  rw [zoc hN (k64 h.kind) hw,Option.bind_some,z35,adw_eq hN h.from_ (z27 hw _),z1x,Option.bind_some,z35,adw_eq hN h.to_ (z27 hw _),z1x,Option.bind_some,z35]
  have e0' : msC m = ([m.Kind].map pI ++ [m.From.Group,m.From.Replica].map pI ++ [m.To.Group,m.To.Replica].map pI) ++ bdC m := rfl
  rw [e0']
  generalize ([m.Kind].map pI ++ [m.From.Group,m.From.Replica].map pI ++ [m.To.Group,m.To.Replica].map pI) = H
  rcases hk' with hk | hk | hk | hk | hk | hk | hk | hk | hk | hk | hk | hk | hk | hk | hk
  · have e1 : bdC m = baC m.Ballot ++ [m.Slot].map pI := by unfold bdC; rw [hk]; rfl
    rw [hk]; simp only [Int.reduceBEq,cond_true,cond_false]
    rw [zvh hN h.ba (z27 hw _),z1x,Option.bind_some,z35,ints1 hN (cnt64 h.slot) (z27 hw _),z1x,Option.bind_some]
    first | (rw [e1]; done) | (rw [e1]; rfl) | (rw [e1]; simp only [List.append_assoc]; done) | (rw [e1]; simp only [List.append_assoc]; rfl)
  · have e1 : bdC m = baC m.Ballot ++ [m.Slot].map pI ++ lsC m.List_ := by unfold bdC; rw [hk]; rfl
    obtain ⟨q1,q2⟩ := hs.1 hk
    rw [hk]; simp only [Int.reduceBEq,cond_true,cond_false]
    rw [zvh hN h.ba (z27 hw _),z1x,Option.bind_some,z35,ints1 hN (cnt64 h.slot) (z27 hw _),z1x,Option.bind_some,z35,lsw_eq hr.1 q1 q2 (z27 hw _),z1x,Option.bind_some]
    first | (rw [e1]; done) | (rw [e1]; rfl) | (rw [e1]; simp only [List.append_assoc]; done) | (rw [e1]; simp only [List.append_assoc]; rfl)
  · have e1 : bdC m = baC m.Ballot ++ lsC m.List_ := by unfold bdC; rw [hk]; rfl
    obtain ⟨q1,q2⟩ := hs.2.1 hk
    rw [hk]; simp only [Int.reduceBEq,cond_true,cond_false]
    rw [zvh hN h.ba (z27 hw _),z1x,Option.bind_some,z35,lsw_eq hr.1 q1 q2 (z27 hw _),z1x,Option.bind_some]
    first | (rw [e1]; done) | (rw [e1]; rfl) | (rw [e1]; simp only [List.append_assoc]; done) | (rw [e1]; simp only [List.append_assoc]; rfl)
  · have e1 : bdC m = baC m.Ballot ++ [m.Slot].map pI := by unfold bdC; rw [hk]; rfl
    rw [hk]; simp only [Int.reduceBEq,cond_true,cond_false]
    rw [zvh hN h.ba (z27 hw _),z1x,Option.bind_some,z35,ints1 hN (cnt64 h.slot) (z27 hw _),z1x,Option.bind_some]
    first | (rw [e1]; done) | (rw [e1]; rfl) | (rw [e1]; simp only [List.append_assoc]; done) | (rw [e1]; simp only [List.append_assoc]; rfl)
  · have e1 : bdC m = baC m.Ballot := by unfold bdC; rw [hk]; rfl
    rw [hk]; simp only [Int.reduceBEq,cond_true,cond_false]
    rw [zvh hN h.ba (z27 hw _),z1x,Option.bind_some]
    first | (rw [e1]; done) | (rw [e1]; rfl) | (rw [e1]; simp only [List.append_assoc]; done) | (rw [e1]; simp only [List.append_assoc]; rfl)
  · have e1 : bdC m = lsC m.List_ := by unfold bdC; rw [hk]; rfl
    obtain ⟨q1,q2⟩ := hs.2.2.1 hk
    rw [hk]; simp only [Int.reduceBEq,cond_true,cond_false]
    rw [lsw_eq hr.1 q1 q2 (z27 hw _),z1x,Option.bind_some]
    first | (rw [e1]; done) | (rw [e1]; rfl) | (rw [e1]; simp only [List.append_assoc]; done) | (rw [e1]; simp only [List.append_assoc]; rfl)
  · have e1 : bdC m = baC m.Ballot ++ [m.Slot].map pI := by unfold bdC; rw [hk]; rfl
    rw [hk]; simp only [Int.reduceBEq,cond_true,cond_false]
    rw [zvh hN h.ba (z27 hw _),z1x,Option.bind_some,z35,ints1 hN (cnt64 h.slot) (z27 hw _),z1x,Option.bind_some]
    first | (rw [e1]; done) | (rw [e1]; rfl) | (rw [e1]; simp only [List.append_assoc]; done) | (rw [e1]; simp only [List.append_assoc]; rfl)
  · have e1 : bdC m = [m.Slot].map pI := by unfold bdC; rw [hk]; rfl
    rw [hk]; simp only [Int.reduceBEq,cond_true,cond_false]
    rw [ints1 hN (cnt64 h.slot) (z27 hw _),z1x,Option.bind_some]
    first | (rw [e1]; done) | (rw [e1]; rfl) | (rw [e1]; simp only [List.append_assoc]; done) | (rw [e1]; simp only [List.append_assoc]; rfl)
  · have e1 : bdC m = enC m.Entry := by unfold bdC; rw [hk]; rfl
    rw [hk]; simp only [Int.reduceBEq,cond_true,cond_false]
    rw [zvz hr.2.1.1 (hs.2.2.2.1 hk) (z27 hw _),z1x,Option.bind_some]
    first | (rw [e1]; done) | (rw [e1]; rfl) | (rw [e1]; simp only [List.append_assoc]; done) | (rw [e1]; simp only [List.append_assoc]; rfl)
  · have e1 : bdC m = [m.Number].map pI ++ m.Vector_.toList.map pI ++ [m.Clock].map pI := by unfold bdC; rw [hk]; rfl
    rw [hk]; simp only [Int.reduceBEq,cond_true,cond_false]
    rw [ints1 hN (cnt64 h.number) (z27 hw _),z1x,Option.bind_some,z35,ints8 hN (fun n hn => cnt64 (h.vec n hn)) (z27 hw _),z1x,Option.bind_some,z35,ints1 hN (cnt64 h.clock) (z27 hw _),z1x,Option.bind_some]
    first | (rw [e1]; done) | (rw [e1]; rfl) | (rw [e1]; simp only [List.append_assoc]; done) | (rw [e1]; simp only [List.append_assoc]; rfl)
  · have e1 : bdC m = [m.Number].map pI ++ [m.Origin].map pI ++ [m.Slot].map pI ++ opsC m.Ops := by unfold bdC; rw [hk]; rfl
    obtain ⟨q1,q2⟩ := hs.2.2.2.2.1 hk
    rw [hk]; simp only [Int.reduceBEq,cond_true,cond_false]
    rw [ints1 hN (cnt64 h.number) (z27 hw _),z1x,Option.bind_some,z35,zoc hN (sit64 q1) (z27 hw _),z1x,Option.bind_some,z35,ints1 hN (cnt64 h.slot) (z27 hw _),z1x,Option.bind_some,z35,opsw_eq hr.2.2.1.1 q2 (z27 hw _),z1x,Option.bind_some]
    first | (rw [e1]; done) | (rw [e1]; rfl) | (rw [e1]; simp only [List.append_assoc]; done) | (rw [e1]; simp only [List.append_assoc]; rfl)
  · have e1 : bdC m = epC m.Epoch := by unfold bdC; rw [hk]; rfl
    rw [hk]; simp only [Int.reduceBEq,cond_true,cond_false]
    rw [epw_eq hN (hs.2.2.2.2.2.1 hk) (z27 hw _),z1x,Option.bind_some]
    first | (rw [e1]; done) | (rw [e1]; rfl) | (rw [e1]; simp only [List.append_assoc]; done) | (rw [e1]; simp only [List.append_assoc]; rfl)
  · have e1 : bdC m = ptC m.Part := by unfold bdC; rw [hk]; rfl
    rw [hk]; simp only [Int.reduceBEq,cond_true,cond_false]
    rw [ptw_eq hN (hs.2.2.2.2.2.2.1 hk) (z27 hw _),z1x,Option.bind_some]
    first | (rw [e1]; done) | (rw [e1]; rfl) | (rw [e1]; simp only [List.append_assoc]; done) | (rw [e1]; simp only [List.append_assoc]; rfl)
  · have e1 : bdC m = [m.Number].map pI ++ m.Vector_.toList.map pI := by unfold bdC; rw [hk]; rfl
    rw [hk]; simp only [Int.reduceBEq,cond_true,cond_false]
    rw [ints1 hN (cnt64 h.number) (z27 hw _),z1x,Option.bind_some,z35,ints8 hN (fun n hn => cnt64 (h.vec n hn)) (z27 hw _),z1x,Option.bind_some]
    first | (rw [e1]; done) | (rw [e1]; rfl) | (rw [e1]; simp only [List.append_assoc]; done) | (rw [e1]; simp only [List.append_assoc]; rfl)
  · have e1 : bdC m = [m.Slot].map pI ++ ptC m.Part := by unfold bdC; rw [hk]; rfl
    rw [hk]; simp only [Int.reduceBEq,cond_true,cond_false]
    rw [ints1 hN (cnt64 h.slot) (z27 hw _),z1x,Option.bind_some,z35,ptw_eq hN (hs.2.2.2.2.2.2.2 hk) (z27 hw _),z1x,Option.bind_some]
    first | (rw [e1]; done) | (rw [e1]; rfl) | (rw [e1]; simp only [List.append_assoc]; done) | (rw [e1]; simp only [List.append_assoc]; rfl)
theorem sl_CB {x : zd} (h : MaySl x) (hb : byt x.Entry.Part.Data) : CB (slC x) :=
  ((CB.int1 (cnt64 h.1)).append ((CB.int1 (ba64 h.2.1).1).append (CB.int1 (ba64 h.2.1).2))).append (CB.en h.2.2 hb)
theorem ls_CB {l : List zd} (hl : l.length ≤ 4096) (h : ∀ x ∈ l,MaySl x) (hb : ∀ x ∈ l,byt x.Entry.Part.Data) : CB (lsC l) :=
  (CB.int1 ⟨by omega,by omega⟩).append fun c hc => by
    obtain ⟨cs,hcs,hc⟩ := List.mem_flatten.1 hc
    obtain ⟨o,ho,rfl⟩ := List.mem_map.1 hcs
    exact sl_CB (h o ho) (hb o ho) c hc
theorem ms_CB {m : GMsg} (hb : bytM m) (h : MayMs m) : CB (msC m) := by
  have hs := spP_of hb h.sp
  have hk' := zxo h.kind
  refine (((CB.int1 (k64 h.kind)).append (CB.int2 (ad64 h.from_).1 (ad64 h.from_).2)).append (CB.int2 (ad64 h.to_).1 (ad64 h.to_).2)).append ?_
  rcases hk' with hk | hk | hk | hk | hk | hk | hk | hk | hk | hk | hk | hk | hk | hk | hk
  · rw [show bdC m = baC m.Ballot ++ [m.Slot].map pI by unfold bdC; rw [hk]; rfl]
    exact ((((CB.int1 (ba64 h.ba).1).append (CB.int1 (ba64 h.ba).2))).append (CB.int1 (cnt64 h.slot)))
  · rw [show bdC m = baC m.Ballot ++ [m.Slot].map pI ++ lsC m.List_ by unfold bdC; rw [hk]; rfl]
    obtain ⟨q1,q2⟩ := hs.1 hk
    exact (((((CB.int1 (ba64 h.ba).1).append (CB.int1 (ba64 h.ba).2))).append (CB.int1 (cnt64 h.slot))).append (ls_CB q1 q2 hb.1))
  · rw [show bdC m = baC m.Ballot ++ lsC m.List_ by unfold bdC; rw [hk]; rfl]
    obtain ⟨q1,q2⟩ := hs.2.1 hk
    exact ((((CB.int1 (ba64 h.ba).1).append (CB.int1 (ba64 h.ba).2))).append (ls_CB q1 q2 hb.1))
  · rw [show bdC m = baC m.Ballot ++ [m.Slot].map pI by unfold bdC; rw [hk]; rfl]
    exact ((((CB.int1 (ba64 h.ba).1).append (CB.int1 (ba64 h.ba).2))).append (CB.int1 (cnt64 h.slot)))
  · rw [show bdC m = baC m.Ballot by unfold bdC; rw [hk]; rfl]
    exact (((CB.int1 (ba64 h.ba).1).append (CB.int1 (ba64 h.ba).2)))
  · rw [show bdC m = lsC m.List_ by unfold bdC; rw [hk]; rfl]
    obtain ⟨q1,q2⟩ := hs.2.2.1 hk
    exact (ls_CB q1 q2 hb.1)
  · rw [show bdC m = baC m.Ballot ++ [m.Slot].map pI by unfold bdC; rw [hk]; rfl]
    exact ((((CB.int1 (ba64 h.ba).1).append (CB.int1 (ba64 h.ba).2))).append (CB.int1 (cnt64 h.slot)))
  · rw [show bdC m = [m.Slot].map pI by unfold bdC; rw [hk]; rfl]
    exact (CB.int1 (cnt64 h.slot))
  · rw [show bdC m = enC m.Entry by unfold bdC; rw [hk]; rfl]
    exact (CB.en (hs.2.2.2.1 hk) hb.2.1)
  · rw [show bdC m = [m.Number].map pI ++ m.Vector_.toList.map pI ++ [m.Clock].map pI by unfold bdC; rw [hk]; rfl]
    exact (((CB.int1 (cnt64 h.number)).append (CB.ints (fun n hn => cnt64 (h.vec n hn)))).append (CB.int1 (cnt64 h.clock)))
  · rw [show bdC m = [m.Number].map pI ++ [m.Origin].map pI ++ [m.Slot].map pI ++ opsC m.Ops by unfold bdC; rw [hk]; rfl]
    obtain ⟨q1,q2⟩ := hs.2.2.2.2.1 hk
    exact ((((CB.int1 (cnt64 h.number)).append (CB.int1 (sit64 q1))).append (CB.int1 (cnt64 h.slot))).append (CB.ops q2))
  · rw [show bdC m = epC m.Epoch by unfold bdC; rw [hk]; rfl]
    exact (CB.ep (hs.2.2.2.2.2.1 hk))
  · rw [show bdC m = ptC m.Part by unfold bdC; rw [hk]; rfl]
    exact (CB.pt (hs.2.2.2.2.2.2.1 hk) hb.2.2)
  · rw [show bdC m = [m.Number].map pI ++ m.Vector_.toList.map pI by unfold bdC; rw [hk]; rfl]
    exact ((CB.int1 (cnt64 h.number)).append (CB.ints (fun n hn => cnt64 (h.vec n hn))))
  · rw [show bdC m = [m.Slot].map pI ++ ptC m.Part by unfold bdC; rw [hk]; rfl]
    exact ((CB.int1 (cnt64 h.slot)).append (CB.pt (hs.2.2.2.2.2.2.2 hk) hb.2.2))
theorem msB_byt {m : GMsg} (hb : bytM m) (h : MayMs m) : byt (msB m) := (ms_CB hb h).flat
theorem zxh (hN : 1048700 ≤ N) {m : GMsg} (hr : roomM N m) :
    (MayMs m ∧ (msB m).length ≤ 1048576 ∧ z10 N m = some (zbl (msB m),0)) ∨ (MayMs m ∧ 1048576 < (msB m).length ∧ z10 N m = some ([],3)) ∨ (¬ MayMs m ∧ z10 N m = some ([],40)) := by
  unfold z10 z9t
  rw [zw0 (by omega) hr,Option.bind_some]
  by_cases hm : MayMs m
  · rw [(znn hr.byt).2 hm]
    simp only [cond_true,beq_self_eq_true,Bool.not_true,cond_false,Option.bind_some]
    rw [msgw_eq (by omega) hr hm (by simp),Option.bind_some]
    by_cases h : (msB m).length ≤ 1048576
    · refine .inl ⟨hm,h,?_⟩
      rw [wr_fit (by simpa [msB] using h)]
      simp only [beq_self_eq_true,Bool.not_true,cond_false,List.nil_append]
      rw [F20_eq (by simpa [msB] using h),Option.bind_some]
      show (zeq N (msB m)).bind _ = _
      rw [F35_eq (by omega) (msB_byt hr.byt hm),if_neg (by omega)]
      rfl
    · refine .inr (.inl ⟨hm,by omega,?_⟩)
      have : (wr 0 [] (msC m)).1 = 3 := zvt _ _ (by simp) (by simp only [List.length_nil]; unfold msB at h; omega)
      rw [this]; rfl
  · refine .inr (.inr ⟨hm,?_⟩)
    have : mayM m = false := by rw [Bool.eq_false_iff]; exact fun e => hm ((znn hr.byt).1 e)
    rw [this]; rfl
theorem z13r (s : Int) : byt (four s) := four_byte s
theorem frame_byt {b : List Int} (hl : b.length ≤ 1048576) (hb : byt b) : byt (zbl b) := fun x hx => by
  unfold zbl at hx
  rcases List.mem_append.1 hx with hx | hx
  · rcases List.mem_append.1 hx with hx | hx
    · exact pI_byt (n := (b.length : Int)) ⟨by omega,by omega⟩ x hx
    · exact hb x hx
  · exact z13r _ x hx
end
end Go.Proofs.YteinehkdjkobnaaGreat
