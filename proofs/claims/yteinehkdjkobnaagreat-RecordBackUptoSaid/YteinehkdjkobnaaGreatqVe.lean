/-
TakeEntry and Unmarshal; the law RecordBack.
-/
import Derived.Test.YteinehkdjkobnaaGreatqVd
set_option linter.unusedVariables false
set_option linter.unusedSimpArgs false
namespace Go.Proofs.YteinehkdjkobnaaGreat
open Go Go.Ev
section
variable {N : Nat} {b : List Int}
def tkE (b : List Int) : z6 × Int :=
  let p := rdEn sm (0,b)
  let e := if p.2.1 = 0 then (if 0 < (p.2.2.length : Int) then 13 else 0) else p.2.1
  if e = 0 then (bif mayEn p.1 then (p.1,0) else (zEn,40)) else (zEn,e)
theorem zhs (b : List Int) : okR b (0,b) := List.suffix_refl b
theorem zsn (hl : b.length ≤ 70368744177664) : z9p N b = some ⟨true,b⟩ := by
  unfold z9p
  rw [F43_eq hl]; rfl
theorem z134 (e x : Int) (r : z4) : z1d N e x r = some (if x = 0 then e else x,r) := by
  unfold z1d
  by_cases h : x = 0
  · rw [if_pos h,show (x == 0) = true by simpa using h]; rfl
  · rw [if_neg h,show (x == 0) = false by simpa using h]; rfl
theorem zso (hN : 4200 ≤ N) (hB : okB b) : z20 N b = some (tkE b) := by
  have hr := (zr0 (g := sm) hB (zhs b)).of hN
  unfold z20 tkE
  rw [zsn hB.1,Option.bind_some]
  have := zs4 hN hB (zhs b)
  simp only at this
  rw [this,Option.bind_some,end_eq,Option.bind_some,z134,Option.bind_some]
  simp only
  generalize (if (rdEn sm (0,b)).2.1 = 0 then (if 0 < ((rdEn sm (0,b)).2.2.length : Int) then (13 : Int) else 0) else (rdEn sm (0,b)).2.1) = e
  by_cases he : e = 0
  · rw [if_pos he,show (e == 0) = true by simpa using he,cond_true,zpq hr,Option.bind_some]
    cases mayEn (rdEn sm (0,b)).1 <;> rfl
  · rw [if_neg he,show (e == 0) = false by simpa using he]
    rfl
theorem tkE_back {x : z6} (h : MayEn x) (hb : byt x.Part.Data) : tkE (enB x) = (x,0) := by
  have := zvk sm_ok h []
  rw [List.append_nil] at this
  unfold tkE
  simp only [this,if_true,List.length_nil,Int.natCast_zero,Int.lt_irrefl,if_false,(zdq hb).2 h,cond_true]
theorem tkE_one (hB : okB b) (h : (tkE b).2 = 0) : MayEn (tkE b).1 ∧ b = enB (tkE b).1 ∧ roomE (tkE b).1 := by
  have hr := zr0 (g := sm) hB (zhs b)
  have h1 := zz5 (g := sm) sm_ok hB (zhs b)
  unfold tkE at h ⊢
  simp only at h ⊢
  by_cases he : (rdEn sm (0,b)).2.1 = 0
  · rw [if_pos he] at h ⊢
    by_cases hl : 0 < ((rdEn sm (0,b)).2.2.length : Int)
    · rw [if_pos hl,if_neg (by decide)] at h; exact absurd h (show ¬ ((13 : Int) = 0) by decide)
    · rw [if_neg hl,if_pos rfl] at h ⊢
      cases hm : mayEn (rdEn sm (0,b)).1 with
      | false => rw [hm] at h; exact absurd h (show ¬ ((40 : Int) = 0) by decide)
      | true =>
        have hM := (zdq hr.2).1 hm
        obtain ⟨_,q⟩ := h1 hM he
        have hn : (rdEn sm (0,b)).2.2 = [] := List.eq_nil_of_length_eq_zero (by omega)
        rw [hn,List.append_nil] at q
        exact ⟨hM,q,hr⟩
  · rw [if_neg he,if_neg he] at h; exact absurd h he
theorem unB_frame {c : List Int} (hl : c.length ≤ 1048576) : unB (zbl c) = (c,((zbl c).length : Int),0) := by
  have hr : R64 (c.length : Int) := ⟨by omega,by omega⟩
  have hp : pv 0 0 (zbl c) = ((c.length : Int),((vint (zig (c.length : Int))).length : Int),0) := by
    unfold zbl; rw [List.append_assoc]; exact pv_zig hr _
  have hd : (zbl c).drop (vint (zig (c.length : Int))).length = c ++ four (sumB c) := by
    unfold zbl; rw [List.append_assoc]; exact List.drop_left
  have hlen : (zbl c).length = (vint (zig (c.length : Int))).length + c.length + 4 := by
    unfold zbl; simp only [List.length_append,zti]
  unfold unB
  rw [hp]
  generalize hv : vint (zig (c.length : Int)) = v at *
  simp only
  rw [if_neg (by simp),if_neg (by omega),if_neg (by omega),if_neg (by omega)]
  have e1 : (v.length : Int).toNat = v.length := by omega
  have e2 : ((v.length : Int) + (c.length : Int)).toNat = v.length + c.length := by omega
  have e3 : (c.length : Int).toNat = c.length := by omega
  rw [e1,e2,e3,hd,List.take_left,← List.drop_drop,hd,List.drop_left,if_pos (by rw [List.take_of_length_le (by rw [zti]; omega)])]
  rw [hlen]
  congr 2
theorem unB_one (hb : ∀ x ∈ b,byteR x) (h : (unB b).2.2 = 0) (hn : ¬ (unB b).2.1 < (b.length : Int)) : b = zbl (unB b).1 ∧ (unB b).1.length ≤ 1048576 := by
  unfold unB at h hn ⊢
  by_cases h1 : (pv 0 0 b).2.2 ≠ 0
  · rw [if_pos h1] at h; exact absurd h h1
  rw [if_neg h1] at h hn ⊢
  by_cases h2 : (pv 0 0 b).1 < 0
  · rw [if_pos h2] at h; exact absurd h (show ¬ ((11 : Int) = 0) by decide)
  rw [if_neg h2] at h hn ⊢
  by_cases h3 : 1048576 < (pv 0 0 b).1
  · rw [if_pos h3] at h; exact absurd h (show ¬ ((3 : Int) = 0) by decide)
  rw [if_neg h3] at h hn ⊢
  by_cases h4 : (b.length : Int) - (pv 0 0 b).2.1 < (pv 0 0 b).1 + 4
  · rw [if_pos h4] at h; exact absurd h (show ¬ ((10 : Int) = 0) by decide)
  rw [if_neg h4] at h hn ⊢
  by_cases h5 : ((b.drop ((pv 0 0 b).2.1 + (pv 0 0 b).1).toNat).take 4) = four (sumB ((b.drop (pv 0 0 b).2.1.toNat).take (pv 0 0 b).1.toNat))
  · rw [if_pos h5] at hn ⊢
    obtain ⟨rest,q1,q2,q3⟩ := pv_one hb (by simpa using h1)
    generalize pv 0 0 b = p at *
    obtain ⟨n,k,e⟩ := p
    simp only at *
    have hk0 : 0 ≤ k := by omega
    have hd : b.drop k.toNat = rest := by
      rw [q1,q2]; simp
    have hL : b.length = (vint (zig n)).length + rest.length := by rw [q1]; simp
    rw [show (k + n).toNat = k.toNat + n.toNat by omega,← List.drop_drop,hd] at h5
    rw [hd]
    have hlen : (rest.take n.toNat).length = n.toNat := by rw [List.length_take]; omega
    have h6 : (rest.drop n.toNat).take 4 = rest.drop n.toNat := List.take_of_length_le (by rw [List.length_drop]; omega)
    rw [h6] at h5
    refine ⟨?_,by rw [hlen]; omega⟩
    unfold zbl
    rw [hlen,show ((n.toNat : Nat) : Int) = n by omega,← h5,List.append_assoc,List.take_append_drop]
    exact q1
  · rw [if_neg h5] at h; exact absurd h (show ¬ ((12 : Int) = 0) by decide)
theorem unB_ok (hB : okB b) : okB (unB b).1 := by
  have h0 : okB ([] : List Int) := ⟨by simp,by simp⟩
  unfold unB
  split; · exact h0
  split; · exact h0
  split; · exact h0
  split; · exact h0
  split
  · refine ⟨?_,fun x hx => hB.2 x (List.mem_of_mem_drop (List.mem_of_mem_take hx))⟩
    have := hB.1
    simp only [List.length_take,List.length_drop]; omega
  · exact h0
def zMsg : GMsg := ⟨0,⟨0,0⟩,⟨0,0⟩,zBa,0,[],zEn,0,zV,0,0,[],zEp,zPt⟩
def umM (b : List Int) : GMsg × Int :=
  if (unB b).2.2 ≠ 0 then (zMsg,(unB b).2.2) else
  if (unB b).2.1 < (b.length : Int) then (zMsg,13) else
  let p := rdMs sm (0,(unB b).1)
  let e := if p.2.1 = 0 then (if 0 < (p.2.2.length : Int) then 13 else 0) else p.2.1
  if e = 0 then (bif mayM p.1 then (p.1,0) else (zMsg,40)) else (zMsg,e)
theorem zsp (hN : 4200 ≤ N) (hN2 : b.length + 20 ≤ N) (hB : okB b) : zz N b = some (umM b) := by
  have hu := unB_ok hB
  have hr := z10z (g := sm) hN hu (zhs (unB b).1)
  unfold zz umM
  rw [F39_eq hN2 hB.1 hB.2,Option.bind_some]
  by_cases h1 : (unB b).2.2 ≠ 0
  · rw [if_pos h1,show ((unB b).2.2 == 0) = false by simpa using h1]; rfl
  rw [if_neg h1,show ((unB b).2.2 == 0) = true by simpa using h1]
  simp only [Bool.not_true,cond_false]
  by_cases h2 : (unB b).2.1 < (b.length : Int)
  · rw [if_pos h2,decide_eq_true h2]; rfl
  rw [if_neg h2,decide_eq_false h2,cond_false,zsn hu.1,Option.bind_some]
  have := z10w hN hu (zhs (unB b).1)
  simp only at this
  rw [this,Option.bind_some,end_eq,Option.bind_some,z134,Option.bind_some]
  generalize (if (rdMs sm (0,(unB b).1)).2.1 = 0 then (if 0 < ((rdMs sm (0,(unB b).1)).2.2.length : Int) then (13 : Int) else 0) else (rdMs sm (0,(unB b).1)).2.1) = e
  by_cases he : e = 0
  · rw [if_pos he,show (e == 0) = true by simpa using he,cond_true,zw0 (by omega) hr,Option.bind_some]
    cases mayM (rdMs sm (0,(unB b).1)).1 <;> rfl
  · rw [if_neg he,show (e == 0) = false by simpa using he]
    rfl
theorem umM_back {m : GMsg} (h : MayMs m) (hb : bytM m) (hl : (msB m).length ≤ 1048576) : umM (zbl (msB m)) = (m,0) := by
  have := rdMs_back sm_ok hb h []
  rw [List.append_nil] at this
  unfold umM
  rw [unB_frame hl]
  simp only [ne_eq,not_true_eq_false,if_false,Int.lt_irrefl,this,if_true,List.length_nil,Int.natCast_zero,(znn hb).2 h,cond_true]
theorem umM_one (hB : okB b) (h : (umM b).2 = 0) : MayMs (umM b).1 ∧ b = zbl (msB (umM b).1) ∧ (msB (umM b).1).length ≤ 1048576 ∧ ∀ N,4200 ≤ N → roomM N (umM b).1 := by
  have hu := unB_ok hB
  have hr : ∀ N,4200 ≤ N → roomM N (rdMs sm (0,(unB b).1)).1 := fun N hN => z10z (g := sm) hN hu (zhs (unB b).1)
  have hone := rdMs_one (g := sm) sm_ok hu (zhs (unB b).1)
  unfold umM at h ⊢
  by_cases h1 : (unB b).2.2 ≠ 0
  · rw [if_pos h1] at h; exact absurd h h1
  rw [if_neg h1] at h ⊢
  by_cases h2 : (unB b).2.1 < (b.length : Int)
  · rw [if_pos h2] at h; exact absurd h (show ¬ ((13 : Int) = 0) by decide)
  rw [if_neg h2] at h ⊢
  obtain ⟨q1,q2⟩ := unB_one hB.2 (by simpa using h1) h2
  simp only at h ⊢
  by_cases he : (rdMs sm (0,(unB b).1)).2.1 = 0
  · rw [if_pos he] at h ⊢
    by_cases hl : 0 < ((rdMs sm (0,(unB b).1)).2.2.length : Int)
    · rw [if_pos hl,if_neg (by decide)] at h; exact absurd h (show ¬ ((13 : Int) = 0) by decide)
    · rw [if_neg hl,if_pos rfl] at h ⊢
      cases hm : mayM (rdMs sm (0,(unB b).1)).1 with
      | false => rw [hm] at h; exact absurd h (show ¬ ((40 : Int) = 0) by decide)
      | true =>
        have hM := (znn (hr 4200 (Nat.le_refl _)).byt).1 hm
        obtain ⟨_,q⟩ := hone hM he
        have hn : (rdMs sm (0,(unB b).1)).2.2 = [] := List.eq_nil_of_length_eq_zero (by omega)
        rw [hn,List.append_nil] at q
        simp only at q
        simp only [cond_true]
        rw [← q]
        exact ⟨hM,q1,q2,hr⟩
  · rw [if_neg he,if_neg he] at h; exact absurd h he
theorem frame_len {c : List Int} (hl : c.length ≤ 1048576) : (zbl c).length ≤ 1048590 := by
  have := zek (zxk (zr1 (n := c.length) hl))
  unfold zbl; simp only [List.length_append,zti]; omega
theorem z13t {e : z6} (h : byt e.Part.Data) : sameE e e = true := (zkn h h).2 rfl
theorem z13u {m : GMsg} (h : bytM m) : sameM m m = true := (znj h h).2 rfl
theorem z135 {l : List Int} (h : byt l) : z1a N l l = some true := by rw [equal_eq N h h]; simp
theorem tailU (hN : 1048700 ≤ N) (hN2 : b.length + 20 ≤ N) (hB : okB b) : ((zz N b).bind fun r11 => (bif (r11.2 == 0) then ((z10 N r11.1).bind fun r12 => ((bif (!(!(r12.2 == 0))) then z1a N r12.1 b else some default).bind fun r13 => (bif ((!(r12.2 == 0)) || (!r13)) then (some false) else (some true)))) else (some true))) = some true := by
  rw [zsp (by omega) hN2 hB,Option.bind_some]
  by_cases h : (umM b).2 = 0
  · obtain ⟨h1,h2,h3,h4⟩ := umM_one hB h
    have hr := h4 N (by omega)
    rcases zxh hN hr with ⟨_,_,q⟩ | ⟨_,q,_⟩ | ⟨q,_⟩
    · rw [show ((umM b).2 == 0) = true by simpa using h,cond_true,q,← h2]
      simp only [Option.bind_some,beq_self_eq_true,Bool.not_true,Bool.not_false,cond_true,z135 (N := N) (l := b) hB.2,Bool.or_self,cond_false]
    · omega
    · exact absurd h1 q
  · rw [show ((umM b).2 == 0) = false by simpa using h]; rfl
theorem tailT (hN : 1048700 ≤ N) (hN2 : b.length + 20 ≤ N) (hB : okB b) : ((z20 N b).bind fun r8 => (bif (r8.2 == 0) then ((z2t N r8.1).bind fun r9 => ((bif ((!((!(r9.2 == 0)) && (decide (((b).length : Int) ≤ 1048576)))) && (r9.2 == 0)) then z1a N r9.1 b else some default).bind fun r10 => (bif (((!(r9.2 == 0)) && (decide (((b).length : Int) ≤ 1048576))) || ((r9.2 == 0) && (!r10))) then (some false) else ((zz N b).bind fun r11 => (bif (r11.2 == 0) then ((z10 N r11.1).bind fun r12 => ((bif (!(!(r12.2 == 0))) then z1a N r12.1 b else some default).bind fun r13 => (bif ((!(r12.2 == 0)) || (!r13)) then (some false) else (some true)))) else (some true)))))) else ((zz N b).bind fun r14 => (bif (r14.2 == 0) then ((z10 N r14.1).bind fun r15 => ((bif (!(!(r15.2 == 0))) then z1a N r15.1 b else some default).bind fun r16 => (bif ((!(r15.2 == 0)) || (!r16)) then (some false) else (some true)))) else (some true))))) = some true := by
  have hU := tailU hN hN2 hB
  simp only [hU]
  rw [zso (by omega) hB,Option.bind_some]
  by_cases h : (tkE b).2 = 0
  · obtain ⟨h1,h2,h3⟩ := tkE_one hB h
    have hr := h3.of (N := N) (by omega)
    rw [show ((tkE b).2 == 0) = true by simpa using h,cond_true]
    rcases z13g (N := N) hr.1 hr.2.1 hr.2.2 with ⟨_,_,q⟩ | ⟨_,q',q⟩ | ⟨q,_⟩
    · rw [q,← h2]
      simp only [Option.bind_some,beq_self_eq_true,Bool.not_true,Bool.not_false,Bool.false_and,Bool.and_self,Bool.true_and,cond_true,z135 (N := N) (l := b) hB.2,Bool.or_self,cond_false]
    · rw [q]
      rw [← h2] at q'
      have : decide ((b.length : Int) ≤ 1048576) = false := by simp; omega
      simp only [this,Option.bind_some]
      rfl
    · exact absurd h1 q
  · rw [show ((tkE b).2 == 0) = false by simpa using h]; rfl
theorem tailM (hN : 1048700 ≤ N) (hN2 : b.length + 20 ≤ N) (hB : okB b) {m : GMsg} (hm : roomM N m) : ((z10 N m).bind fun r5 => (bif (r5.2 == 0) then ((zz N r5.1).bind fun r6 => ((bif (!(!(r6.2 == 0))) then z76 N m r6.1 else some default).bind fun r7 => (bif ((!(r6.2 == 0)) || (!r7)) then (some false) else ((z20 N b).bind fun r8 => (bif (r8.2 == 0) then ((z2t N r8.1).bind fun r9 => ((bif ((!((!(r9.2 == 0)) && (decide (((b).length : Int) ≤ 1048576)))) && (r9.2 == 0)) then z1a N r9.1 b else some default).bind fun r10 => (bif (((!(r9.2 == 0)) && (decide (((b).length : Int) ≤ 1048576))) || ((r9.2 == 0) && (!r10))) then (some false) else ((zz N b).bind fun r11 => (bif (r11.2 == 0) then ((z10 N r11.1).bind fun r12 => ((bif (!(!(r12.2 == 0))) then z1a N r12.1 b else some default).bind fun r13 => (bif ((!(r12.2 == 0)) || (!r13)) then (some false) else (some true)))) else (some true)))))) else ((zz N b).bind fun r14 => (bif (r14.2 == 0) then ((z10 N r14.1).bind fun r15 => ((bif (!(!(r15.2 == 0))) then z1a N r15.1 b else some default).bind fun r16 => (bif ((!(r15.2 == 0)) || (!r16)) then (some false) else (some true)))) else (some true)))))))) else ((z8k N m).bind fun r17 => (bif (r17 && (!(r5.2 == 3))) then (some false) else ((z20 N b).bind fun r18 => (bif (r18.2 == 0) then ((z2t N r18.1).bind fun r19 => ((bif ((!((!(r19.2 == 0)) && (decide (((b).length : Int) ≤ 1048576)))) && (r19.2 == 0)) then z1a N r19.1 b else some default).bind fun r20 => (bif (((!(r19.2 == 0)) && (decide (((b).length : Int) ≤ 1048576))) || ((r19.2 == 0) && (!r20))) then (some false) else ((zz N b).bind fun r21 => (bif (r21.2 == 0) then ((z10 N r21.1).bind fun r22 => ((bif (!(!(r22.2 == 0))) then z1a N r22.1 b else some default).bind fun r23 => (bif ((!(r22.2 == 0)) || (!r23)) then (some false) else (some true)))) else (some true)))))) else ((zz N b).bind fun r24 => (bif (r24.2 == 0) then ((z10 N r24.1).bind fun r25 => ((bif (!(!(r25.2 == 0))) then z1a N r25.1 b else some default).bind fun r26 => (bif ((!(r25.2 == 0)) || (!r26)) then (some false) else (some true)))) else (some true))))))))) = some true := by
  have hT := tailT hN hN2 hB
  simp only [hT]
  rcases zxh hN hm with ⟨h1,h2,q⟩ | ⟨h1,h2,q⟩ | ⟨h1,q⟩
  · have hf := frame_len h2
    have hfo : okB (zbl (msB m)) := ⟨by omega,frame_byt h2 (msB_byt hm.byt h1)⟩
    rw [q]
    simp only [Option.bind_some,beq_self_eq_true,cond_true]
    rw [zsp (by omega) (by omega) hfo,umM_back h1 hm.byt h2]
    simp only [Option.bind_some,beq_self_eq_true,Bool.not_true,Bool.not_false,cond_true]
    rw [zr4 hm,z13u hm.byt]
    rfl
  · rw [q]
    simp only [Option.bind_some]
    rw [zst (by omega) hm,(znn hm.byt).2 h1]
    rfl
  · rw [q]
    have : mayM m = false := by rw [Bool.eq_false_iff]; exact fun e => h1 ((znn hm.byt).1 e)
    simp only [Option.bind_some]
    rw [zst (by omega) hm,this]
    rfl
theorem z111 (hN : 1048700 ≤ N) (hN2 : b.length + 20 ≤ N) {x : z6} {m : GMsg} (hx : x.Ops.length + 20 ≤ N ∧ x.Ops.length ≤ 9223372036854775807 ∧ byt x.Part.Data) (hm : roomM N m) (hB : okB b) : za3 N x m b = some true := by
  have hM := tailM hN hN2 hB hm
  unfold za3
  simp only [hM]
  rw [begun_eq (by omega),Option.bind_some]
  simp only [Bool.not_true,cond_false]
  rcases z13g hx.1 hx.2.1 hx.2.2 with ⟨h1,h2,q⟩ | ⟨h1,h2,q⟩ | ⟨h1,q⟩
  · have hfo : okB (enB x) := ⟨by omega,(CB.en h1 hx.2.2).flat⟩
    rw [q]
    simp only [Option.bind_some,beq_self_eq_true,cond_true]
    rw [zso (by omega) hfo,tkE_back h1 hx.2.2]
    simp only [Option.bind_some,beq_self_eq_true,Bool.not_true,Bool.not_false,cond_true]
    rw [zcj (by omega) (by omega),z13t hx.2.2]
    rfl
  · rw [q]
    simp only [Option.bind_some]
    rcases zj9 hx.1 hx.2.1 hx.2.2 with ⟨_,r⟩ | ⟨r,_⟩
    · rw [r]; rfl
    · exact absurd h1 r
  · rw [q]
    simp only [Option.bind_some]
    rcases zj9 hx.1 hx.2.1 hx.2.2 with ⟨r,_⟩ | ⟨_,r⟩
    · exact absurd r h1
    · rw [r]; rfl
end
end Go.Proofs.YteinehkdjkobnaaGreat
