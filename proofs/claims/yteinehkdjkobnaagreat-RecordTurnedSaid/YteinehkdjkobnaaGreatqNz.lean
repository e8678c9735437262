/-
Frames read through windows; a turned byte changes the check; torn frames.
-/
import Derived.Test.YteinehkdjkobnaaGreatqWt
import Derived.Laws.BitsAllLaws
set_option linter.unusedVariables false
set_option linter.unusedSimpArgs false
namespace Go.Proofs.YteinehkdjkobnaaGreat
open Go Go.Ev
theorem zrg {a a' c : Int} (ha : R32 a) (ha' : R32 a') (hc : R32 c) (h : bits .xor .u32 a c = bits .xor .u32 a' c) : a = a' := by
  rw [u32_xor a c ha.1 ha.2 hc.1 hc.2,u32_xor a' c ha'.1 ha'.2 hc.1 hc.2] at h
  have h1 : a.toNat ^^^ c.toNat = a'.toNat ^^^ c.toNat := by omega
  have h2 : (a.toNat ^^^ c.toNat) ^^^ c.toNat = (a'.toNat ^^^ c.toNat) ^^^ c.toNat := by rw [h1]
  rw [Nat.xor_assoc,Nat.xor_assoc,Nat.xor_self,Nat.xor_zero,Nat.xor_zero] at h2
  have := ha.1; have := ha'.1
  omega
theorem z12q {a : Int} (h0 : 0 ≤ a) (h1 : a < 2147483648) : 2147483648 ≤ bits .xor .u32 a 3988292384 := by
  rw [u32_xor a 3988292384 h0 (by omega) (by decide) (by decide)]
  have hlt : a.toNat < 2 ^ 31 := by omega
  have h2 : (a.toNat ^^^ (3988292384 : Int).toNat).testBit 31 = true := by
    rw [Nat.testBit_xor,Nat.testBit_lt_two_pow hlt]; rfl
  have h3 := Nat.ge_two_pow_of_testBit h2
  omega
theorem stepc_inj {s s' : Int} (h : R32 s) (h' : R32 s') (e : stepc s = stepc s') : s = s' := by
  have a1 := h.1; have a2 := h.2; have b1 := h'.1; have b2 := h'.2
  have d : R32 (s / 2) := ⟨by omega,by omega⟩
  have d' : R32 (s' / 2) := ⟨by omega,by omega⟩
  unfold stepc at e
  by_cases c : s % 2 = 1 <;> by_cases c' : s' % 2 = 1
  · rw [if_pos c,if_pos c'] at e
    have := zrg d d' ⟨by decide,by decide⟩ e
    omega
  · rw [if_pos c,if_neg c'] at e
    have := z12q (a := s / 2) (by omega) (by omega)
    omega
  · rw [if_neg c,if_pos c'] at e
    have := z12q (a := s' / 2) (by omega) (by omega)
    omega
  · rw [if_neg c,if_neg c'] at e; omega
theorem zvm : ∀ (n : Nat) {s s' : Int},R32 s → R32 s' → stepn n s = stepn n s' → s = s'
  | 0,_,_,_,_,e => e
  | n + 1,_,_,h,h',e => stepc_inj h h' (zvm n (zmd h) (zmd h') e)
theorem zrh {b : Int} (h : byteR b) : R32 b := ⟨h.1,by have := h.2; omega⟩
theorem updc_inj {s s' b : Int} (h : R32 s) (h' : R32 s') (hb : byteR b) (e : updc s b = updc s' b) : s = s' :=
  zrg h h' (zrh hb) (zvm 8 (z8s h (zrh hb)) (z8s h' (zrh hb)) e)
theorem zob {a b : Int} (ha : R32 a) (hb : R32 b) : bits .xor .u32 a b = bits .xor .u32 b a := by
  rw [u32_xor a b ha.1 ha.2 hb.1 hb.2,u32_xor b a hb.1 hb.2 ha.1 ha.2,Nat.xor_comm]
theorem updc_byte {s b b' : Int} (h : R32 s) (hb : byteR b) (hb' : byteR b') (e : updc s b = updc s b') : b = b' := by
  have := zvm 8 (z8s h (zrh hb)) (z8s h (zrh hb')) e
  rw [zob h (zrh hb),zob h (zrh hb')] at this
  exact zrg (zrh hb) (zrh hb') h this
theorem z12r : ∀ (l : List Int) {s s' : Int},R32 s → R32 s' → (∀ b ∈ l,byteR b) → l.foldl updc s = l.foldl updc s' → s = s'
  | [],_,_,_,_,_,e => e
  | b :: l,_,_,h,h',hb,e => updc_inj h h' (hb b (by simp)) (z12r l (za0 h (hb b (by simp))) (za0 h' (hb b (by simp))) (fun x hx => hb x (by simp [hx])) e)
theorem zvn : R32 4294967295 := ⟨by decide,by decide⟩
theorem z10p {l : List Int} (hb : ∀ b ∈ l,byteR b) : R32 (sumB l) := z8s ⟨by decide,by decide⟩ (zf6 l zvn hb)
theorem sum_set {l : List Int} (hb : ∀ b ∈ l,byteR b) {i : Nat} (hi : i < l.length) {y : Int} (hy : byteR y) (hne : y ≠ l[i]) : sumB (l.set i y) ≠ sumB l := by
  intro e
  have hx : byteR l[i] := hb _ (List.getElem_mem hi)
  have e1 : l = l.take i ++ l[i] :: l.drop (i + 1) := by
    conv => lhs; rw [← List.take_append_drop i l]
    rw [List.drop_eq_getElem_cons hi]
  have e2 : l.set i y = l.take i ++ y :: l.drop (i + 1) := by
    rw [List.set_eq_take_append_cons_drop,if_pos hi]
  have ht : ∀ b ∈ l.take i,byteR b := fun b h => hb b (List.mem_of_mem_take h)
  have hd : ∀ b ∈ l.drop (i + 1),byteR b := fun b h => hb b (List.mem_of_mem_drop h)
  have hs := zf6 (l.take i) zvn ht
  unfold sumB at e
  rw [e2] at e
  have e3 : (l.take i ++ l[i] :: l.drop (i + 1)).foldl updc 4294967295 = l.foldl updc 4294967295 := by rw [← e1]
  rw [← e3] at e
  simp only [List.foldl_append,List.foldl_cons] at e
  have r1 : R32 ((l.drop (i + 1)).foldl updc (updc ((l.take i).foldl updc 4294967295) y)) := zf6 _ (za0 hs hy) hd
  have r2 : R32 ((l.drop (i + 1)).foldl updc (updc ((l.take i).foldl updc 4294967295) l[i])) := zf6 _ (za0 hs hx) hd
  rw [zob ⟨by decide,by decide⟩ r1,zob ⟨by decide,by decide⟩ r2] at e
  have := zrg r1 r2 ⟨by decide,by decide⟩ e
  have := z12r _ (za0 hs hy) (za0 hs hx) hd this
  exact hne (updc_byte hs hy hx this)
theorem shr32 {a : Int} {k : Nat} (hk : k < 32) : shr .u32 a (k : Int) = a / (2 ^ k : Nat) := by
  simp only [shr,IntKind.bits]
  rw [show (min ((k : Nat) : Int).toNat 32) = k by omega,Int.fdiv_eq_ediv_of_nonneg _ (by exact Int.natCast_nonneg _)]
  simp
theorem four_inj {s s' : Int} (h : R32 s) (h' : R32 s') (e : four s = four s') : s = s' := by
  have a1 := h.1; have a2 := h.2; have b1 := h'.1; have b2 := h'.2
  have q8 : ∀ a : Int,shr .u32 a 8 = a / 256 := fun a => shr32 (k := 8) (by decide)
  have q16 : ∀ a : Int,shr .u32 a 16 = a / 65536 := fun a => shr32 (k := 16) (by decide)
  have q24 : ∀ a : Int,shr .u32 a 24 = a / 16777216 := fun a => shr32 (k := 24) (by decide)
  simp only [four,zt5,q8,q16,q24,List.cons.injEq,and_true] at e
  omega
theorem zkz (c : List Int) : (z1s c).length = (vint (zig (c.length : Int))).length + c.length + 4 := by
  unfold z1s; simp only [List.length_append,za1]
theorem len64 {c : List Int} (hl : c.length ≤ 1048576) : R64 (c.length : Int) := ⟨by omega,by omega⟩
theorem unB_head {c : List Int} (hl : c.length ≤ 1048576) (d : List Int) (hd : c.length + 4 ≤ d.length) :
    unB (vint (zig (c.length : Int)) ++ d) = if (d.drop c.length).take 4 = four (sumB (d.take c.length)) then (d.take c.length,((vint (zig (c.length : Int))).length : Int) + c.length + 4,0) else ([],0,12) := by
  have hp := pv_zig (len64 hl) d
  unfold unB
  rw [hp]
  generalize hv : vint (zig (c.length : Int)) = v at *
  simp only
  rw [if_neg (by simp),if_neg (by omega),if_neg (by omega),if_neg (by simp only [List.length_append]; omega)]
  have e1 : (v.length : Int).toNat = v.length := by omega
  have e2 : ((v.length : Int) + (c.length : Int)).toNat = v.length + c.length := by omega
  have e3 : (c.length : Int).toNat = c.length := by omega
  rw [e1,e2,e3,List.drop_left,← List.drop_drop,List.drop_left]
theorem unB_short {c : List Int} (hl : c.length ≤ 1048576) {k : Nat} (hk : k < (z1s c).length) : (unB ((z1s c).take k)).2.2 = 10 := by
  rw [zkz] at hk
  have hz := z11k (len64 hl) (q := k)
  generalize hv : vint (zig (c.length : Int)) = v at *
  by_cases h : k < v.length
  · have e : (z1s c).take k = v.take k := by
      unfold z1s; rw [hv,List.append_assoc,List.take_append_of_le_length (by omega)]
    unfold unB
    rw [e,hz h,if_pos (by decide)]
  · have e : (z1s c).take k = v ++ (c ++ four (sumB c)).take (k - v.length) := by
      unfold z1s
      rw [hv,List.append_assoc,List.take_append,List.take_of_length_le (by omega)]
    have hp := pv_zig (len64 hl) ((c ++ four (sumB c)).take (k - v.length))
    rw [hv] at hp
    unfold unB
    rw [e,hp]
    simp only
    rw [if_neg (by simp),if_neg (by omega),if_neg (by omega),if_pos (by simp only [List.length_append,List.length_take,za1]; omega)]
theorem z13t {c : List Int} (hl : c.length ≤ 1048576) (hb : ∀ b ∈ c,byteR b) {k : Nat} (h0 : (vint (zig (c.length : Int))).length ≤ k) (hk : k < (z1s c).length) {y : Int} (hy : byteR y) (hne : y ≠ (z1s c)[k]) :
    (unB ((z1s c).set k y)).2.2 = 12 := by
  have hk' := hk
  rw [zkz] at hk'
  have hx : (z1s c)[k] = (c ++ four (sumB c))[k - (vint (zig (c.length : Int))).length]'(by simp only [List.length_append,za1]; omega) := by
    have : (z1s c)[k] = (vint (zig (c.length : Int)) ++ (c ++ four (sumB c)))[k]'(by simp only [List.length_append,za1]; omega) := by
      congr 1; unfold z1s; rw [List.append_assoc]
    rw [this,List.getElem_append_right h0]
  rw [hx] at hne
  clear hx
  replace hne : (c ++ four (sumB c))[k - (vint (zig (c.length : Int))).length]? ≠ some y := fun e => by
    rw [List.getElem?_eq_getElem (by simp only [List.length_append,za1]; omega)] at e
    exact hne (Option.some.inj e).symm
  generalize hv : vint (zig (c.length : Int)) = v at *
  have e : (z1s c).set k y = v ++ (c ++ four (sumB c)).set (k - v.length) y := by
    unfold z1s
    rw [hv,List.append_assoc,List.set_append_right _ _ h0]
  rw [e,← hv,unB_head hl _ (by simp only [List.length_set,List.length_append,za1]; omega),hv]
  have hj : k - v.length < c.length + 4 := by omega
  generalize k - v.length = j at *
  by_cases h : j < c.length
  · have e1 : (c ++ four (sumB c)).set j y = c.set j y ++ four (sumB c) := List.set_append_left _ _ h
    have hcj : y ≠ c[j] := by
      intro e'; apply hne; rw [List.getElem?_append_left h,List.getElem?_eq_getElem h,e']
    have hls : (c.set j y).length = c.length := List.length_set
    rw [e1,← hls,List.take_left,List.drop_left,List.take_of_length_le (by rw [za1]; omega),if_neg]
    intro e'
    have := four_inj (z10p hb) (z10p fun b hb' => by
      rcases List.mem_or_eq_of_mem_set hb' with h' | h'
      · exact hb b h'
      · rw [h']; exact hy) e'
    exact sum_set hb h hy hcj this.symm
  · have e1 : (c ++ four (sumB c)).set j y = c ++ (four (sumB c)).set (j - c.length) y := List.set_append_right _ _ (by omega)
    have hlt : j - c.length < (four (sumB c)).length := by rw [za1]; omega
    have hcj : y ≠ (four (sumB c))[j - c.length] := by
      intro e'; apply hne; rw [List.getElem?_append_right (by omega),List.getElem?_eq_getElem hlt,e']
    rw [e1,List.take_left,List.drop_left,List.take_of_length_le (by rw [List.length_set,za1]; omega),if_neg]
    intro e'
    have e2 : ((four (sumB c)).set (j - c.length) y)[j - c.length]'(by rw [List.length_set]; exact hlt) = y := List.getElem_set_self _
    have : (four (sumB c))[j - c.length] = y := by
      rw [← e2]; congr 1; exact e'.symm
    exact hcj this.symm
theorem flip_byte : ∀ (x : Fin 256) (j : Fin 8),byteR (bits .xor .u8 (x.val : Int) (shl .u8 1 (j.val : Int))) ∧ bits .xor .u8 (x.val : Int) (shl .u8 1 (j.val : Int)) ≠ (x.val : Int) := by
  unfold byteR
  decide +kernel
theorem flip_of {x j : Int} (hx : byteR x) (h0 : 0 ≤ j) (h8 : j < 8) : byteR (bits .xor .u8 x (shl .u8 1 j)) ∧ bits .xor .u8 x (shl .u8 1 j) ≠ x := by
  have := flip_byte ⟨x.toNat,by have := hx.1; have := hx.2; omega⟩ ⟨j.toNat,by omega⟩
  simp only at this
  have e1 : ((x.toNat : Nat) : Int) = x := by have := hx.1; omega
  have e2 : ((j.toNat : Nat) : Int) = j := by omega
  rw [e1,e2] at this
  exact this
theorem z12s {S S' R R' : Type} {φ : R' → R} {body : S → (S → Option R) → Option R} {body' : S' → (S' → Option R') → Option R'} (P : S → S' → Prop)
    (h : ∀ s s' n n',P s s' → (∀ t t',P t t' → n t = (n' t').map φ) → body s n = (body' s' n').map φ) : ∀ m s s',P s s' → iter m body s = (iter m body' s').map φ
  | 0,_,_,_ => rfl
  | m + 1,s,s',hp => h s s' _ _ hp fun t t' ht => z12s P h m t t' ht
theorem map_bif {R R' : Type} {φ : R' → R} (c : Bool) (x y : Option R') : (bif c then x else y).map φ = bif c then x.map φ else y.map φ := by cases c <;> rfl
theorem getD_take {g : List Int} {b i : Nat} (h : i < b) (d : Int) : (g.take b).getD i d = g.getD i d := by
  simp only [List.getD,List.getElem?_take,if_pos h]
theorem z12t {g : List Int} {b o n : Nat} (h : o + n ≤ b) : (g.drop o).take n = ((g.take b).drop o).take n := by
  rw [List.drop_take,List.take_take,Nat.min_eq_left (by omega)]
section
variable {N : Nat} {g : List Int}
theorem parse_win (N : Nat) {b : Nat} (hb : b ≤ g.length) : zce N b g = (z9e N (g.take b)).map fun r => (r.1,r.2.1,r.2.2,g) := by
  unfold zce z9e
  have hlen : (g.take b).length = b := by rw [List.length_take]; omega
  refine z12s (fun (s : z59) (s' : z8d) => s.u = s'.u ∧ s.t8 = s'.t8) ?_ N _ _ ⟨rfl,rfl⟩
  rintro ⟨u,i⟩ ⟨u',i'⟩ n n' ⟨e1,e2⟩ ih
  simp only at e1 e2
  subst e1; subst e2
  simp only [hlen,map_bif,Option.map_some,Option.map_none]
  congr 1
  congr 1
  cases hi : ibB i (b : Int) with
  | false => rfl
  | true =>
    obtain ⟨h0,h1⟩ := zm6 hi
    have hg : decide (i.toNat < g.length) = true := decide_eq_true (by omega)
    have hl : lget (g.take b) i default = g.getD i.toNat default := getD_take (by omega) _
    simp only [cond_true,hg,hl]
    congr 1
    congr 1
    congr 1
    exact ih ⟨_,_⟩ ⟨_,_⟩ ⟨rfl,rfl⟩
theorem z12u {o n : Nat} {i : Int} (h0 : 0 ≤ i) (h1 : i < n) (d : Int) : lget ((g.drop o).take n) i d = g.getD (o + i.toNat) d := by
  simp only [lget,List.getD,List.getElem?_take,List.getElem?_drop]
  rw [if_pos (by omega)]
theorem z122 {o n : Nat} (h : o + n ≤ g.length) : ((g.drop o).take n).length = n := by rw [List.length_take,List.length_drop]; omega
theorem equal_win {o n m : Nat} {q : Bool} {d : List Int} (hN : n < N) (hn : n ≤ 9223372036854775000) (h : o + n ≤ g.length) : z66 N o n m q d g = some (decide ((g.drop o).take n = d),g) := by
  unfold z66
  have hc := z122 h
  have hw : ∀ i : Int,0 ≤ i → i < n → g.getD (o + i.toNat) default = lget ((g.drop o).take n) i default := fun i h0 h1 => (z12u h0 h1 _).symm
  generalize hcc : (g.drop o).take n = c at *
  by_cases hl : n = d.length
  · have : (!(((n : Nat) : Int) == (d.length : Int))) = false := by simp [hl]
    rw [this]
    simp only [cond_false]
    refine z2h (fun q : z2e => 0 ≤ q.t13 ∧ q.t13 ≤ (n : Int) ∧ (c.drop q.t13.toNat = d.drop q.t13.toNat ↔ c = d)) (fun q => ((n : Int) - q.t13).toNat) ?_ N _ ⟨by simp,by simp,by simp⟩ (by simp; omega)
    rintro ⟨i⟩ nx ⟨g0,g1,hq⟩ ih
    simp only at g0 g1 hq ih ⊢
    by_cases hi : i < n
    · have hi' : i < d.length := by omega
      rw [z1m (default : Int) (l := c) g0 (by omega),z1m (default : Int) g0 hi'] at hq
      have hg : decide (o + i.toNat < g.length) = true := decide_eq_true (by omega)
      simp only [decide_eq_true hi,z56 g0 hi,z56 g0 hi',cond_true,hg,hw i g0 hi]
      by_cases he : lget c i default = lget d i default
      · have : (!(lget c i default == lget d i default)) = false := by simp only [he,beq_self_eq_true,Bool.not_true]
        rw [this,z2m (by omega) (by omega)]
        simp only [cond_false]
        exact ih ⟨i + 1⟩ ⟨by simp; omega,by simp; omega,by simp only; rw [← hq,he]; simp⟩ (by simp; omega)
      · have : (!(lget c i default == lget d i default)) = true := by rw [beq_eq_false_iff_ne.2 he]; rfl
        rw [this]
        simp only [cond_true]
        have : c ≠ d := fun e => he (by rw [e])
        simp [this]
    · have : decide (i < (n : Int)) = false := by simpa using hi
      simp only [this,cond_false]
      rw [List.drop_eq_nil_of_le (by omega),List.drop_eq_nil_of_le (by omega)] at hq
      simp [hq.1 rfl]
  · have : (!(((n : Nat) : Int) == (d.length : Int))) = true := by simp; omega
    rw [this]
    have : c ≠ d := fun e => hl (by rw [← e,hc])
    simp [this]
theorem roundsW {N : Nat} (hN : 8 < N) {X : Type} (k : Int → Option X) {s : Int} (hs : R32 s) : iter N (fun (s5 : z4h) next6 =>
     (bif (decide (s5.t25 < 8)) then
     (bif ((bits .and .u32 s5.sum 1) == 1) then
     (next6 ⟨(bits .xor .u32 (shr .u32 s5.sum 1) 3988292384),(IntKind.i64.wrap (s5.t25 + 1))⟩)
     else
     (next6 ⟨(shr .u32 s5.sum 1),(IntKind.i64.wrap (s5.t25 + 1))⟩))
     else (k s5.sum))) ⟨s,0⟩ = k (stepn 8 s) := by
  rw [← z13h hN k hs]
  refine z13d (fun (a : z4h) (b : z6z) => a.sum = b.sum ∧ a.t25 = b.t25) ?_ N _ _ ⟨rfl,rfl⟩
  rintro ⟨a1,a2⟩ ⟨b1,b2⟩ n n' ⟨e1,e2⟩ ih
  simp only at e1 e2
  subst e1; subst e2
  simp only
  rw [ih ⟨_,_⟩ ⟨_,_⟩ ⟨rfl,rfl⟩,ih ⟨_,_⟩ ⟨_,_⟩ ⟨rfl,rfl⟩]
theorem sum_win {o n m : Nat} {q : Bool} (hN : n + 20 ≤ N) (hn : n ≤ 9223372036854775000) (h : o + n ≤ g.length) (hb : ∀ b ∈ (g.drop o).take n,byteR b) : zf1 N o n m q g = some (sumB ((g.drop o).take n),g) := by
  unfold zf1 sumB
  have hc := z122 h
  have hw : ∀ i : Int,0 ≤ i → i < n → g.getD (o + i.toNat) default = lget ((g.drop o).take n) i default := fun i h0 h1 => (z12u h0 h1 _).symm
  generalize hcc : (g.drop o).take n = l at *
  refine z2h (fun q : z80 => 0 ≤ q.t17 ∧ q.t17 ≤ (n : Int) ∧ R32 q.sum ∧ (l.drop q.t17.toNat).foldl updc q.sum = l.foldl updc 4294967295) (fun q => ((n : Int) - q.t17).toNat) ?_ N _ ⟨by simp,by simp,zvn,by simp⟩ (by simp; omega)
  rintro ⟨q,i⟩ nx ⟨h0,h8,hr,hq⟩ ih
  simp only at h0 h8 hr hq ih ⊢
  by_cases hi : i < n
  · have hi' : i < l.length := by omega
    have hbi := hb _ (z9a (default : Int) h0 hi')
    have hg : decide (o + i.toNat < g.length) = true := decide_eq_true (by omega)
    simp only [decide_eq_true hi,cond_true,z56 h0 hi,hg,hw i h0 hi]
    rw [wrapU32 hbi.1 (by have := hbi.2; omega)]
    rw [roundsW (by omega) (fun t => nx ⟨t,IntKind.i64.wrap (i + 1)⟩) (z8s hr ⟨hbi.1,by have := hbi.2; omega⟩)]
    rw [z2m (by omega) (by omega)]
    refine ih ⟨updc q (lget l i default),i + 1⟩ ⟨by simp; omega,by simp; omega,za0 hr hbi,?_⟩ (by simp; omega)
    rw [← hq,z1m (default : Int) h0 hi',List.foldl_cons]
  · have : decide (i < (n : Int)) = false := by simpa using hi
    simp only [this,cond_false]
    rw [List.drop_eq_nil_of_le (by omega)] at hq
    rw [← hq]; rfl
theorem clone_win {o n m : Nat} {q : Bool} (hq : q = true) (hn : n ≤ 70368744177664) (h : o + n ≤ g.length) : z67 N o n m q g = some ((g.drop o).take n,g) := by
  unfold z67
  rw [z122 h,zqf (by omega),Nat.ble_eq_true_of_le h,hq]
  rfl
theorem cutW_of {l h m c : Int} (h1 : 0 ≤ l) (h2 : l ≤ h) (h3 : h ≤ m) (h4 : m ≤ c) : cutW l h m c = true := by simp [cutW,h1,h2,h3,h4]
theorem z123 {b : Nat} (hN : b + 20 ≤ N) (hb : b ≤ g.length) (hl : b ≤ 70368744177664) (hby : ∀ x ∈ g.take b,byteR x) : z9s N b g = some ((unB (g.take b)).1,(unB (g.take b)).2.1,(unB (g.take b)).2.2,g) := by
  have hlen : (g.take b).length = b := by rw [List.length_take]; omega
  obtain ⟨a1,a2,a3,_⟩ := pv_k hby
  have a4 := a3.1; have a5 := a3.2
  rw [hlen] at a2
  unfold z9s unB
  rw [parse_win N hb,F45_eq (by omega) (by omega) hby,Option.map_some,Option.bind_some,hlen]
  generalize hp : pv 0 0 (g.take b) = p at a1 a2 a4 a5 ⊢
  by_cases he : p.2.2 = 0
  · rw [if_neg (by simpa using he),show (!(p.2.2 == 0)) = false by simp [he]]
    simp only [cond_false]
    by_cases hn : p.1 < 0
    · rw [if_pos hn,decide_eq_true hn]; rfl
    · rw [if_neg hn,decide_eq_false hn]
      simp only [cond_false]
      by_cases hm : 1048576 < p.1
      · rw [if_pos hm,decide_eq_true hm]; rfl
      · rw [if_neg hm,decide_eq_false hm]
        simp only [cond_false]
        rw [z2m (n := (b : Int) - p.2.1) (by omega) (by omega),z2m (n := p.1 + 4) (by omega) (by omega)]
        by_cases hs : (b : Int) - p.2.1 < p.1 + 4
        · rw [if_pos hs,decide_eq_true hs]; rfl
        · rw [if_neg hs,decide_eq_false hs]
          simp only [cond_false]
          rw [z2m (n := p.2.1 + p.1) (by omega) (by omega),z2m (n := p.2.1 + p.1 + 4) (by omega) (by omega)]
          rw [cutW_of (l := p.2.1 + p.1) (by omega) (by omega) (by omega) (by omega),cutW_of (l := p.2.1) (by omega) (by omega) (by omega) (by omega)]
          simp only [cond_true]
          have hsub : ∀ x ∈ ((g.take b).drop p.2.1.toNat).take p.1.toNat,byteR x := fun x hx => hby x (List.mem_of_mem_drop (List.mem_of_mem_take hx))
          have z1 : (p.2.1 + p.1).toNat - p.2.1.toNat = p.1.toNat := by omega
          have z2 : (p.2.1 + p.1 + 4).toNat - (p.2.1 + p.1).toNat = 4 := by omega
          have w1 : (g.drop p.2.1.toNat).take p.1.toNat = ((g.take b).drop p.2.1.toNat).take p.1.toNat := z12t (by omega)
          have w2 : (g.drop (p.2.1 + p.1).toNat).take 4 = ((g.take b).drop (p.2.1 + p.1).toNat).take 4 := z12t (by omega)
          rw [Nat.zero_add,Nat.zero_add,z1,z2,sum_win (by omega) (by omega) (by omega) (by rw [w1]; exact hsub)]
          simp only [Option.bind_some]
          rw [show ∀ s,zdv N s = some (four s) from fun s => rfl,Option.bind_some,equal_win (by omega) (by omega) (by omega),Option.bind_some,w1,w2]
          by_cases hc : ((g.take b).drop (p.2.1 + p.1).toNat).take 4 = four (sumB (((g.take b).drop p.2.1.toNat).take p.1.toNat))
          · rw [if_pos hc,decide_eq_true hc]
            simp only [Bool.not_true,cond_false]
            rw [clone_win (by rw [show Nat.blt 0 b = decide (0 < b) by rw [Bool.eq_iff_iff]; simp [Nat.blt,Nat.succ_le_iff]]; simp; omega) (by omega) (by omega),Option.bind_some,w1]
          · rw [if_neg hc,decide_eq_false hc]; rfl
  · rw [if_pos he,show (!(p.2.2 == 0)) = true by simpa using he]; rfl
end
end Go.Proofs.YteinehkdjkobnaaGreat
