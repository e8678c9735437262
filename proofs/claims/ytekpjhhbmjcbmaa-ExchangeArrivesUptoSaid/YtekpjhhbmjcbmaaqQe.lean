/-
ExchangeArrives: a state that may be. What the document's check of any state answers, and what it says where it lets one in.
-/
import Derived.Test.YtekpjhhbmjcbmaaqWrf
set_option linter.unusedVariables false
set_option linter.unusedSimpArgs false
set_option maxRecDepth 100000
namespace Go.Proofs.Ytekpjhhbmjcbmaa
open Go Go.Ev
section
variable {N : Nat}
theorem tot_cond {α : Type} {c : Bool} {a b : Option α} (h : ∃ r, a = some r) (h' : ∃ r, b = some r) : ∃ r, (bif c then a else b) = some r := by cases c; exact h'; exact h
theorem tot_bind {α β : Type} {o : Option α} {f : α → Option β} (h : ∃ r, o = some r) (h' : ∀ x, ∃ r, f x = some r) : ∃ r, o.bind f = some r := by
  obtain ⟨r, rfl⟩ := h
  exact h' r
theorem tot_bindQ {α β : Type} {Q : β → Prop} {o : Option α} {f : α → Option β} (h : ∃ r, o = some r) (h' : ∀ x, ∃ r, f x = some r ∧ Q r) : ∃ r, o.bind f = some r ∧ Q r := by
  obtain ⟨r, rfl⟩ := h
  exact h' r
theorem tot_bindP {α β : Type} {P : α → Prop} {Q : β → Prop} {o : Option α} {f : α → Option β} (h : ∃ r, o = some r ∧ P r) (h' : ∀ x, P x → ∃ r, f x = some r ∧ Q r) : ∃ r, o.bind f = some r ∧ Q r := by
  obtain ⟨r, rfl, p⟩ := h
  exact h' r p
theorem tot_condP {α : Type} {Q : α → Prop} {c : Bool} {a b : Option α} (h : c = true → ∃ r, a = some r ∧ Q r) (h' : c = false → ∃ r, b = some r ∧ Q r) : ∃ r, (bif c then a else b) = some r ∧ Q r := by cases c; exact h' rfl; exact h rfl
theorem look_loop {S R : Type} {body : S → (S → Option R) → Option R} (ix : S → Int) (P : S → Prop) (n : Nat) (Q : R → Prop) (hN : n < N)
    (hb : ∀ s next, 0 ≤ ix s → ix s < n → P s → (∀ s', ix s' = ix s + 1 → P s' → ∃ r, next s' = some r ∧ Q r) → ∃ r, body s next = some r ∧ Q r)
    (he : ∀ s next, ix s = n → P s → ∃ r, body s next = some r ∧ Q r) {s0 : S} (h0 : ix s0 = 0) (hp : P s0) : ∃ r, iter N body s0 = some r ∧ Q r := by
  refine iter_post (fun s => 0 ≤ ix s ∧ ix s ≤ n ∧ P s) (fun s => n - (ix s).toNat) Q ?_ N s0 ⟨by omega, by omega, hp⟩ (by omega)
  rintro s next ⟨p1, p2, p3⟩ hn
  by_cases hlt : ix s < n
  · exact hb s next p1 hlt p3 fun s' q1 q2 => hn s' ⟨by omega, by omega, q2⟩ (by omega)
  · exact he s next (by omega) p3
theorem look_tot {S R : Type} {body : S → (S → Option R) → Option R} (ix : S → Int) (n : Nat) (hN : n < N)
    (hb : ∀ s next, 0 ≤ ix s → ix s < n → (∀ s', ix s' = ix s + 1 → ∃ r, next s' = some r) → ∃ r, body s next = some r)
    (he : ∀ s next, ix s = n → ∃ r, body s next = some r) {s0 : S} (h0 : ix s0 = 0) : ∃ r, iter N body s0 = some r := by
  obtain ⟨r, h, _⟩ := look_loop (N := N) (body := body) ix (fun _ => True) n (fun _ => True) hN (fun s next p1 p2 _ hn => by
      obtain ⟨r, h⟩ := hb s next p1 p2 fun s' q => by
        obtain ⟨r, h, _⟩ := hn s' q trivial
        exact ⟨r, h⟩
      exact ⟨r, h, trivial⟩) (fun s next q _ => by
      obtain ⟨r, h⟩ := he s next q
      exact ⟨r, h, trivial⟩) h0 trivial
  exact ⟨r, h⟩
theorem gd_mem {α : Type} (d : α) {l : List α} {i : Nat} (h : i < l.length) : l.getD i d ∈ l := by
  rw [show l.getD i d = l[i] by simp [List.getD, List.getElem?_eq_getElem h]]; exact List.getElem_mem h
theorem attrs_tot {l : List GAttr} (hN : l.length < N) (hl : l.length ≤ 1048576) : ∃ r, Fref12_attrs N l = some r := by
  unfold Fref12_attrs
  refine look_tot (fun s => s.i) l.length hN ?_ ?_ rfl
  · intro s next p1 p2 hn
    rw [decide_eq_true p2, ibB_of p1 p2]
    simp only [cond_true, Bool.or_true]
    have e : (!((!((((((lget l s.i default).Key) == []) || (decide (255 < (((lget l s.i default).Key).length : Int)))) || (((lget l s.i default).Value) == [])) || (decide (255 < (((lget l s.i default).Value).length : Int))))) && (decide (0 < s.i))) || (ibB (IntKind.i64.wrap (s.i - 1)) ((l).length : Int))) = true := by
      by_cases h : 0 < s.i
      · rw [wrap64 (by omega) (by omega), ibB_of (by omega) (by omega), Bool.or_true]
      · rw [decide_eq_false h]; simp
    rw [e]
    simp only [cond_true]
    exact tot_cond ⟨_, rfl⟩ (hn _ (wrap64 (by omega) (by omega)))
  · intro s next p1
    rw [decide_eq_false (show ¬ s.i < (l.length : Int) by omega)]; exact ⟨_, rfl⟩
theorem name12_tot {s : List UInt8} (hN : 300 ≤ N) : ∃ r, Fref12_Name N s = some r := by
  unfold Fref12_Name
  cases hc : ((((s == []) || (decide (255 < ((s).length : Int)))) || (s == [46])) || (s == [46, 46])) with
  | true => exact ⟨_, rfl⟩
  | false =>
    simp only [Bool.or_eq_false_iff, decide_eq_false_iff_not] at hc
    have := hc.1.1.2
    simp only [cond_false]
    refine look_tot (fun q => q.i) s.length (by omega) ?_ ?_ rfl
    · intro q next p1 p2 hn
      rw [decide_eq_true p2, ibB_of p1 p2]
      simp only [cond_true]
      exact tot_cond ⟨_, rfl⟩ (hn _ (wrap64 (by omega) (by omega)))
    · intro q next p1
      rw [decide_eq_false (show ¬ q.i < (s.length : Int) by omega)]; exact ⟨_, rfl⟩
theorem find_tot {g : List GTreeNode} {n : Int} {w : List (List GTreeNode)} (hN : g.length + 1 < N) (hl : g.length ≤ 2000000) :
    ∃ r, Fref12_Tree_find_cf7 N n g.length w g = some r ∧ ∃ (i : Nat) (b : Bool), r = ((i : Int), b, g.length, w, g) ∧ i ≤ g.length ∧ (b = true → i < g.length) := by
  unfold Fref12_Tree_find_cf7
  refine look_loop (fun s => s.i) (fun _ => True) g.length _ (by omega) ?_ ?_ rfl trivial
  · intro s next p1 p2 _ hn
    rw [decide_eq_true p2, ibB_of p1 p2, decide_eq_true (show s.i.toNat < g.length by omega)]
    simp only [Bool.not_true, Bool.false_or, cond_true, Bool.true_and]
    refine tot_condP (fun _ => hn _ (wrap64 (by omega) (by omega)) trivial) fun _ => ⟨_, rfl, s.i.toNat, _, by rw [show ((s.i.toNat : Nat) : Int) = s.i by omega], by omega, fun _ => by omega⟩
  · intro s next p1 _
    rw [decide_eq_false (show ¬ s.i < ((g.length : Nat) : Int) by omega)]
    simp only [Bool.not_false, Bool.true_or, cond_true, Bool.false_and, cond_false]
    exact ⟨_, rfl, g.length, false, by rw [p1], Nat.le_refl _, fun h => by cases h⟩
def Gn (k : Nat) (g : List GTreeNode) : Prop := g.length ≤ k ∧ ∀ x ∈ g, x.Attrs.length ≤ 1048576
theorem put_tot {g : List GTreeNode} {x : GTreeNode} {w : List (List GTreeNode)} {k : Nat} (hN : 1100000 ≤ N) (hg : Gn k g) (hk : k ≤ 1048600) (hx : x.Attrs.length ≤ 1048576) :
    ∃ r, Fref12_Tree_put_7c5 N x g.length w g = some r ∧ ∃ g', r = (g'.length, w, g') ∧ Gn (k + 1) g' := by
  obtain ⟨h1, h2⟩ := hg
  unfold Fref12_Tree_put_7c5
  obtain ⟨_, h, i, b, rfl, hi, hb⟩ := find_tot (N := N) (g := g) (n := x.Node) (w := w) (by omega) (by omega)
  rw [h, Option.bind_some]
  simp only [Int.toNat_natCast]
  cases b with
  | true =>
    have := hb rfl
    rw [ibB_of (by omega) (by omega), decide_eq_true this]
    simp only [cond_true]
    refine ⟨_, rfl, g.set i x, by rw [List.length_set], by rw [List.length_set]; omega, fun y hy => ?_⟩
    rcases List.mem_or_eq_of_mem_set hy with hy | hy
    · exact h2 y hy
    · rw [hy]; exact hx
  | false =>
    have e0 : (g.drop 0).take i = g.take i := by simp
    have l0 : (g.take i).length = i := by simp; omega
    have e1 : (g.drop (0 + i)).take (g.length - i) = g.drop i := by rw [Nat.zero_add]; exact List.take_of_length_le (by simp)
    have l1 : (g.drop i).length = g.length - i := by simp
    have c1 : cutW 0 (i : Int) ((g.length : Nat) : Int) ((g.length : Nat) : Int) = true := by simp [cutW]; omega
    have c2 : cutW (i : Int) ((g.length : Nat) : Int) ((g.length : Nat) : Int) ((g.length : Nat) : Int) = true := by simp [cutW]; omega
    have t0 : (g.take i).take i = g.take i := by rw [List.take_take, Nat.min_self]
    have l2 : (g.take i ++ [x]).length = i + 1 := by simp; omega
    simp only [cond_false, e0, l0, e1, l1, c1, c2, List.length_singleton, t0, l2, cond_true]
    rw [lenB_of (by omega), lenB_of (by omega), lenB_of (by omega), Nat.ble_eq_true_of_le (by omega), Nat.ble_self_eq_true, Nat.ble_self_eq_true, Nat.ble_eq_true_of_le (by omega)]
    simp only [Bool.and_self, cond_true]
    refine ⟨_, rfl, g.take i ++ [x] ++ g.drop i, ?_, by simp; omega, fun y hy => ?_⟩
    · rw [List.take_of_length_le (by omega)]
      simp; omega
    · simp only [List.mem_append, List.mem_singleton] at hy
      rcases hy with (hy | hy) | hy
      · exact h2 y (List.mem_of_mem_take hy)
      · rw [hy]; exact hx
      · exact h2 y (List.mem_of_mem_drop hy)
theorem clone12_tot {g : List GTreeNode} {k : Nat} (hN : 1100000 ≤ N) (hg : Gn k g) (hk : k ≤ 1048600) : ∃ r, Fref12_clone_228 N g.length g = some r ∧ r.1.length = g.length := by
  obtain ⟨h1, h2⟩ := hg
  unfold Fref12_clone_228
  refine look_loop (fun s : Sref12_clone_228x3 => s.i) (fun s => (s.out.length : Int) = s.i) g.length _ (by omega) ?_ ?_ rfl (by simp)
  · intro s next p1 p2 hp hn
    have := h2 _ (gd_mem default (show s.i.toNat < g.length by omega))
    rw [decide_eq_true p2, ibB_of p1 p2, decide_eq_true (show s.i.toNat < g.length by omega), lenB_of (by omega), lenB_of (by simp only [List.length_singleton]; omega)]
    exact hn _ (wrap64 (by omega) (by omega)) (by simp only [List.length_append, List.length_singleton]; rw [wrap64 (by omega) (by omega)]; omega)
  · intro s next p1 hp
    rw [decide_eq_false (show ¬ s.i < ((g.length : Nat) : Int) by omega)]
    exact ⟨_, rfl, by simp only; omega⟩
theorem find2_tot {t : Gorchardref12_Tree} {n : Int} (hN : t.nodes.length + 1 < N) (hl : t.nodes.length ≤ 2000000) :
    ∃ r, Fref12_Tree_find_5ce N n t = some r ∧ ∃ (i : Nat) (b : Bool), r = ((i : Int), b, t) ∧ (b = true → i < t.nodes.length) := by
  unfold Fref12_Tree_find_5ce
  refine look_loop (fun s => s.i) (fun _ => True) t.nodes.length _ (by omega) ?_ ?_ rfl trivial
  · intro s next p1 p2 _ hn
    rw [decide_eq_true p2, ibB_of p1 p2]
    simp only [Bool.not_true, Bool.false_or, cond_true, Bool.true_and]
    refine tot_condP (fun _ => hn _ (wrap64 (by omega) (by omega)) trivial) fun _ => ⟨_, rfl, s.i.toNat, _, by rw [show ((s.i.toNat : Nat) : Int) = s.i by omega], fun _ => by omega⟩
  · intro s next p1 _
    rw [decide_eq_false (show ¬ s.i < (t.nodes.length : Int) by omega)]
    simp only [Bool.not_false, Bool.true_or, cond_true, Bool.false_and, cond_false]
    exact ⟨_, rfl, t.nodes.length, false, by rw [p1], fun h => by cases h⟩
theorem from_tot {l : List GTreeNode} (hN : 1100000 ≤ N) (hl : l.length ≤ 1048576) (ha : ∀ x ∈ l, x.Attrs.length ≤ 1048576) : ∃ r, Fref12_From N l = some r := by
  suffices h : ∃ r, Fref12_From N l = some r ∧ True by
    obtain ⟨r, h, _⟩ := h
    exact ⟨r, h⟩
  unfold Fref12_From Fref12_New_06d
  rw [Option.bind_some]
  refine look_loop (fun s : Sref12_Fromx3 => s.i) (fun s => s.b0 = s.g2.length ∧ Gn (s.i.toNat + 2) s.g2) l.length _ (by omega) ?_ ?_ rfl ⟨rfl, by simp, by simp⟩
  · rintro ⟨t, b0, b02, g2⟩ next p1 p2 ⟨hp, hg⟩ hn
    simp only at p1 p2 hp hg
    subst hp
    have hx := ha _ (lget_mem default p1 p2)
    rw [decide_eq_true p2, ibB_of p1 p2]
    have e : (!((!(decide (((lget l t default).Node) < 1))) && (decide (0 < t))) || (ibB (IntKind.i64.wrap (t - 1)) ((l).length : Int))) = true := by
      by_cases h : 0 < t
      · rw [wrap64 (by omega) (by omega), ibB_of (by omega) (by omega), Bool.or_true]
      · rw [decide_eq_false h]; simp
    rw [e]
    simp only [cond_true]
    refine tot_bindQ (tot_cond (attrs_tot (by omega) hx) ⟨_, rfl⟩) fun _ => tot_bindQ (tot_cond (name12_tot (by omega)) ⟨_, rfl⟩) fun _ => tot_condP (fun _ => ⟨_, rfl, trivial⟩) fun _ => ?_
    obtain ⟨_, h, g', rfl, h'⟩ := put_tot (x := lget l t default) (w := b02) hN hg (by omega) hx
    rw [h, Option.bind_some]
    have hw : IntKind.i64.wrap (t + 1) = t + 1 := wrap64 (by omega) (by omega)
    refine hn _ hw ⟨rfl, ?_⟩
    simp only [hw]
    rw [show (t + 1).toNat + 2 = t.toNat + 2 + 1 by omega]
    exact h'
  · rintro ⟨t, b0, b02, g2⟩ next p1 ⟨hp, hg⟩
    simp only at p1 hp hg
    subst hp
    subst p1
    rw [decide_eq_false (show ¬ (l.length : Int) < (l.length : Int) by omega)]
    simp only [cond_false, Int.toNat_natCast] at hg ⊢
    obtain ⟨r, h, hr⟩ := clone12_tot hN hg (by omega)
    have hgl := hg.1
    rw [h, Option.bind_some]
    refine look_loop (fun s : Sref12_Fromx12 => s.i) (fun s => s.b0 = ⟨r.1, b02⟩) r.1.length _ (by omega) ?_ ?_ rfl rfl
    · rintro ⟨i, b0⟩ next p1 p2 hp hn
      simp only at p1 p2 hp
      subst hp
      rw [decide_eq_true p2, ibB_of p1 p2]
      simp only [cond_true]
      refine look_loop (fun s : Sref12_Fromx16 => s.k) (fun s => s.b0 = ⟨r.1, b02⟩) (r.1.length + 2) _ (by omega) ?_ ?_ rfl rfl
      · rintro ⟨n, k, b0⟩ nx q1 q2 hp hnx
        simp only at q1 q2 hp
        subst hp
        refine tot_condP (fun _ => ?_) fun _ => hn _ (wrap64 (by omega) (by omega)) rfl
        obtain ⟨_, h, j, b, rfl, hb⟩ := find2_tot (N := N) (n := n) (t := ⟨r.1, b02⟩) (by simp only; omega) (by simp only; omega)
        rw [h, Option.bind_some]
        simp only
        cases b with
        | false => exact ⟨_, rfl, trivial⟩
        | true =>
          have := hb rfl
          simp only at this
          refine tot_condP (fun _ => ⟨_, rfl, trivial⟩) fun _ => ?_
          rw [ibB_of (by omega) (by omega)]
          exact hnx _ (wrap64 (by omega) (by omega)) rfl
      · rintro ⟨n, k, b0⟩ nx q1 hp
        simp only at q1 hp
        subst hp
        refine tot_condP (fun _ => ?_) fun _ => hn _ (wrap64 (by omega) (by omega)) rfl
        obtain ⟨_, h, j, b, rfl, hb⟩ := find2_tot (N := N) (n := n) (t := ⟨r.1, b02⟩) (by simp only; omega) (by simp only; omega)
        rw [h, Option.bind_some]
        simp only
        rw [decide_eq_true (show (r.1.length : Int) < k by omega), Bool.or_true]
        exact ⟨_, rfl, trivial⟩
    · rintro ⟨i, b0⟩ next p1 hp
      simp only at p1 hp
      subst hp
      rw [decide_eq_false (show ¬ i < (r.1.length : Int) by omega)]
      exact ⟨_, rfl, trivial⟩
end
end Go.Proofs.Ytekpjhhbmjcbmaa
