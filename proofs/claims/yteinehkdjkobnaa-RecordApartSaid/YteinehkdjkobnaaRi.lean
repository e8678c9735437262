/-
An entry's bytes tell the entry; the law RecordApart.
-/
import Derived.Test.YteinehkdjkobnaaRh
set_option linter.unusedVariables false
set_option linter.unusedSimpArgs false
namespace Go.Proofs.Yteinehkdjkobnaa
open Go Go.Ev

theorem pI_inj {n m : Int} (hn : R64 n) (hm : R64 m) {r s : List Int} (h : pI n ++ r = pI m ++ s) : n = m ∧ r = s := by
  have h1 := pv_zig hn r
  have h2 := pv_zig hm s
  unfold pI at h
  rw [h] at h1
  rw [h1] at h2
  have e : n = m := congrArg Prod.fst h2
  subst e
  exact ⟨rfl, List.append_cancel_left h⟩
theorem pB_inj {l m : List Int} (hl : l.length ≤ 1048576) (hm : m.length ≤ 1048576) {r s : List Int} (h : pB l ++ r = pB m ++ s) : l = m ∧ r = s := by
  unfold pB at h
  rw [List.append_assoc, List.append_assoc] at h
  obtain ⟨e, h'⟩ := pI_inj (n := (l.length : Int)) (m := (m.length : Int)) ⟨by omega, by omega⟩ ⟨by omega, by omega⟩ h
  exact List.append_inj h' (by omega)
theorem pT_inj {l m : List UInt8} (hl : l.length ≤ 1048576) (hm : m.length ≤ 1048576) {r s : List Int} (h : pT l ++ r = pT m ++ s) : l = m ∧ r = s := by
  obtain ⟨e, h'⟩ := pB_inj (by rw [bytesI_len]; exact hl) (by rw [bytesI_len]; exact hm) h
  exact ⟨by rw [← strI_bytesI l, ← strI_bytesI m, e], h'⟩
theorem ints_inj : ∀ (l m : List Int), l.length = m.length → (∀ n ∈ l, R64 n) → (∀ n ∈ m, R64 n) → ∀ {r s : List Int}, (l.map pI).flatten ++ r = (m.map pI).flatten ++ s → l = m ∧ r = s
  | [], [], _, _, _, r, s, h => ⟨rfl, by simpa using h⟩
  | [], _ :: _, h, _, _, _, _, _ => by simp at h
  | _ :: _, [], h, _, _, _, _, _ => by simp at h
  | x :: l, y :: m, hl, hx, hy, r, s, h => by
    rw [List.map_cons, List.map_cons, List.flatten_cons, List.flatten_cons, List.append_assoc, List.append_assoc] at h
    obtain ⟨rfl, h'⟩ := pI_inj (hx x (by simp)) (hy y (by simp)) h
    obtain ⟨rfl, h''⟩ := ints_inj l m (by simpa using hl) (fun n hn => hx n (by simp [hn])) (fun n hn => hy n (by simp [hn])) h'
    exact ⟨rfl, h''⟩
theorem opB_inj {a b : GOp} (ha : MayOp a) (hb : MayOp b) {r s : List Int} (h : opB a ++ r = opB b ++ s) : a = b ∧ r = s := by
  obtain ⟨⟨a1, a2⟩, a3, a4, a5, a6, a7, a8⟩ := a
  obtain ⟨⟨b1, b2⟩, b3, b4, b5, b6, b7, b8⟩ := b
  obtain ⟨p1, p2, p3, p4, p5, p6, p7, p8⟩ := ha
  obtain ⟨q1, q2, q3, q4, q5, q6, q7, q8⟩ := hb
  simp only at p1 p2 p3 p4 p5 p6 p7 p8 q1 q2 q3 q4 q5 q6 q7 q8
  simp only [opB, opC, List.map_cons, List.map_nil, List.flatten_append, List.flatten_cons, List.flatten_nil, List.append_nil, List.append_assoc] at h
  obtain ⟨rfl, h1⟩ := pI_inj ⟨by omega, by omega⟩ ⟨by omega, by omega⟩ h
  obtain ⟨rfl, h2⟩ := pI_inj ⟨by omega, by omega⟩ ⟨by omega, by omega⟩ h1
  obtain ⟨rfl, h3⟩ := pI_inj ⟨by omega, by omega⟩ ⟨by omega, by omega⟩ h2
  obtain ⟨rfl, h4⟩ := pI_inj ⟨by omega, by omega⟩ ⟨by omega, by omega⟩ h3
  obtain ⟨rfl, h5⟩ := pI_inj ⟨by omega, by omega⟩ ⟨by omega, by omega⟩ h4
  obtain ⟨rfl, h6⟩ := pT_inj (by omega) (by omega) h5
  obtain ⟨rfl, h7⟩ := pT_inj (by omega) (by omega) h6
  obtain ⟨rfl, h8⟩ := pT_inj (by omega) (by omega) h7
  exact ⟨rfl, h8⟩
theorem ops_inj : ∀ (l m : List GOp), l.length = m.length → (∀ n ∈ l, MayOp n) → (∀ n ∈ m, MayOp n) → ∀ {r s : List Int}, ((l.map opC).flatten).flatten ++ r = ((m.map opC).flatten).flatten ++ s → l = m ∧ r = s
  | [], [], _, _, _, r, s, h => ⟨rfl, by simpa using h⟩
  | [], _ :: _, h, _, _, _, _, _ => by simp at h
  | _ :: _, [], h, _, _, _, _, _ => by simp at h
  | x :: l, y :: m, hl, hx, hy, r, s, h => by
    rw [List.map_cons, List.map_cons, List.flatten_cons, List.flatten_cons, List.flatten_append, List.flatten_append, List.append_assoc, List.append_assoc] at h
    obtain ⟨rfl, h'⟩ := opB_inj (hx x (by simp)) (hy y (by simp)) h
    obtain ⟨rfl, h''⟩ := ops_inj l m (by simpa using hl) (fun n hn => hx n (by simp [hn])) (fun n hn => hy n (by simp [hn])) h'
    exact ⟨rfl, h''⟩
theorem vec_inj {v w : Vector Int 8} (hv : ∀ n ∈ v.toList, R64 n) (hw : ∀ n ∈ w.toList, R64 n) {r s : List Int} (h : (v.toList.map pI).flatten ++ r = (w.toList.map pI).flatten ++ s) : v = w ∧ r = s := by
  obtain ⟨e, h'⟩ := ints_inj _ _ (by simp) hv hw h
  exact ⟨Vector.toList_inj.1 e, h'⟩
theorem ep_inj {a b : GEpoch} (ha : MayEp a) (hb : MayEp b) {r s : List Int} (h : (epC a).flatten ++ r = (epC b).flatten ++ s) : a = b ∧ r = s := by
  obtain ⟨x1, x2, x3⟩ := ep_states ha
  obtain ⟨y1, y2, y3⟩ := ep_states hb
  have z1 := cnt64 ha.1
  have z2 := cnt64 hb.1
  obtain ⟨a1, a2, a3, a4⟩ := a
  obtain ⟨b1, b2, b3, b4⟩ := b
  simp only at z1 z2 x1 x2 x3 y1 y2 y3
  simp only [epC, List.map_cons, List.map_nil, List.flatten_append, List.flatten_cons, List.flatten_nil, List.append_nil, List.append_assoc] at h
  obtain ⟨rfl, h1⟩ := pI_inj z1 z2 h
  obtain ⟨rfl, h2⟩ := vec_inj x1 y1 h1
  obtain ⟨rfl, h3⟩ := vec_inj x3 y3 h2
  obtain ⟨rfl, h4⟩ := vec_inj x2 y2 h3
  exact ⟨rfl, h4⟩
theorem pt_inj {a b : GPart} (ha : MayPt a) (hb : MayPt b) {r s : List Int} (h : (ptC a).flatten ++ r = (ptC b).flatten ++ s) : a = b ∧ r = s := by
  obtain ⟨x1, ⟨x2, x3⟩, ⟨x4, x5⟩, x6⟩ := ha
  obtain ⟨y1, ⟨y2, y3⟩, ⟨y4, y5⟩, y6⟩ := hb
  obtain ⟨a1, a2, a3, a4⟩ := a
  obtain ⟨b1, b2, b3, b4⟩ := b
  simp only at x1 x2 x3 x4 x5 x6 y1 y2 y3 y4 y5 y6
  simp only [ptC, List.map_cons, List.map_nil, List.flatten_append, List.flatten_cons, List.flatten_nil, List.append_nil, List.append_assoc] at h
  obtain ⟨rfl, h1⟩ := pI_inj (cnt64 x1) (cnt64 y1) h
  obtain ⟨rfl, h2⟩ := pI_inj ⟨by omega, by omega⟩ ⟨by omega, by omega⟩ h1
  obtain ⟨rfl, h3⟩ := pI_inj ⟨by omega, by omega⟩ ⟨by omega, by omega⟩ h2
  obtain ⟨rfl, h4⟩ := pB_inj (by omega) (by omega) h3
  exact ⟨rfl, h4⟩
theorem en_inj {x y : GEntry} (hx : MayEn x) (hy : MayEn y) {r s : List Int} (h : enB x ++ r = enB y ++ s) : x = y ∧ r = s := by
  obtain ⟨kx, ex, cx⟩ := hx
  obtain ⟨ky, ey, cy⟩ := hy
  have hk9 : x.Kind = 0 ∨ x.Kind = 1 ∨ x.Kind = 2 ∨ x.Kind = 3 ∨ x.Kind = 4 ∨ x.Kind = 5 ∨ x.Kind = 6 ∨ x.Kind = 7 ∨ x.Kind = 8 := by unfold kindE at kx; omega
  unfold kindE at kx ky
  obtain ⟨kd, a2, a3, a4, a5, a6, a7, a8, a9, a10, a11, a12, a13, a14, a15⟩ := x
  obtain ⟨kd', b2, b3, b4, b5, b6, b7, b8, b9, b10, b11, b12, b13, b14, b15⟩ := y
  simp only at hk9 kx ky
  unfold enB enC at h
  rw [List.flatten_append, List.flatten_append, List.append_assoc, List.append_assoc] at h
  simp only [List.map_cons, List.map_nil, List.flatten_cons, List.flatten_nil, List.append_nil] at h
  obtain ⟨rfl, h1⟩ := pI_inj ⟨by omega, by omega⟩ ⟨by omega, by omega⟩ h
  rcases hk9 with rfl | rfl | rfl | rfl | rfl | rfl | rfl | rfl | rfl
  · replace cx : (decide (sit a13) && decide (sit a14) && decide (cnt a15)) = true := cx
    replace cy : (decide (sit b13) && decide (sit b14) && decide (cnt b15)) = true := cy
    simp only [Bool.and_eq_true, decide_eq_true_eq] at cx cy
    obtain ⟨⟨c1, c2⟩, c3⟩ := cx
    obtain ⟨⟨d1, d2⟩, d3⟩ := cy
    simp only [tailC, opsC, Int.reduceBEq, cond_true, cond_false, List.map_cons, List.map_nil, List.flatten_append, List.flatten_cons, List.flatten_nil, List.append_nil, List.nil_append, List.append_assoc] at h1
    exact ⟨by rw [ex, ey]; rfl, h1⟩
  · replace cx : (decide (cnt a2) && decide (0 < a2) && decide (cnt a3) && decide (0 < a3) && decide (MayOp a4)) = true := cx
    replace cy : (decide (cnt b2) && decide (0 < b2) && decide (cnt b3) && decide (0 < b3) && decide (MayOp b4)) = true := cy
    simp only [Bool.and_eq_true, decide_eq_true_eq] at cx cy
    obtain ⟨⟨⟨⟨c1, _⟩, c2⟩, _⟩, c3⟩ := cx
    obtain ⟨⟨⟨⟨d1, _⟩, d2⟩, _⟩, d3⟩ := cy
    simp only [tailC, opsC, Int.reduceBEq, cond_true, cond_false, List.map_cons, List.map_nil, List.flatten_append, List.flatten_cons, List.flatten_nil, List.append_nil, List.nil_append, List.append_assoc] at h1
    obtain ⟨rfl, h2⟩ := pI_inj (cnt64 c1) (cnt64 d1) h1
    obtain ⟨rfl, h3⟩ := pI_inj (cnt64 c2) (cnt64 d2) h2
    obtain ⟨rfl, h4⟩ := opB_inj c3 d3 h3
    exact ⟨by rw [ex, ey]; rfl, h4⟩
  · replace cx : (decide (sit a5) && decide (cnt a6) && decide (MayOps a7)) = true := cx
    replace cy : (decide (sit b5) && decide (cnt b6) && decide (MayOps b7)) = true := cy
    simp only [Bool.and_eq_true, decide_eq_true_eq] at cx cy
    obtain ⟨⟨c1, c2⟩, c3⟩ := cx
    obtain ⟨⟨d1, d2⟩, d3⟩ := cy
    simp only [tailC, opsC, Int.reduceBEq, cond_true, cond_false, List.map_cons, List.map_nil, List.flatten_append, List.flatten_cons, List.flatten_nil, List.append_nil, List.nil_append, List.append_assoc] at h1
    obtain ⟨rfl, h2⟩ := pI_inj (sit64 c1) (sit64 d1) h1
    obtain ⟨rfl, h3⟩ := pI_inj (cnt64 c2) (cnt64 d2) h2
    obtain ⟨el, h4⟩ := pI_inj (n := (a7.length : Int)) (m := (b7.length : Int)) ⟨by omega, by have := c3.2.1; omega⟩ ⟨by omega, by have := d3.2.1; omega⟩ h3
    obtain ⟨rfl, h5⟩ := ops_inj a7 b7 (by omega) c3.2.2 d3.2.2 h4
    exact ⟨by rw [ex, ey]; rfl, h5⟩
  · replace cx : (decide (MayEp a8)) = true := cx
    replace cy : (decide (MayEp b8)) = true := cy
    simp only [Bool.and_eq_true, decide_eq_true_eq] at cx cy
    have c1 := cx
    have d1 := cy
    simp only [tailC, opsC, Int.reduceBEq, cond_true, cond_false, List.map_cons, List.map_nil, List.flatten_append, List.flatten_cons, List.flatten_nil, List.append_nil, List.nil_append, List.append_assoc] at h1
    obtain ⟨rfl, h2⟩ := ep_inj c1 d1 h1
    exact ⟨by rw [ex, ey]; rfl, h2⟩
  · replace cx : (decide (cnt a6) && decide (sit a9) && decide (MayVec a10) && decide (cnt a11)) = true := cx
    replace cy : (decide (cnt b6) && decide (sit b9) && decide (MayVec b10) && decide (cnt b11)) = true := cy
    simp only [Bool.and_eq_true, decide_eq_true_eq] at cx cy
    obtain ⟨⟨⟨c1, c2⟩, c3⟩, c4⟩ := cx
    obtain ⟨⟨⟨d1, d2⟩, d3⟩, d4⟩ := cy
    simp only [tailC, opsC, Int.reduceBEq, cond_true, cond_false, List.map_cons, List.map_nil, List.flatten_append, List.flatten_cons, List.flatten_nil, List.append_nil, List.nil_append, List.append_assoc] at h1
    obtain ⟨rfl, h2⟩ := pI_inj (cnt64 c1) (cnt64 d1) h1
    obtain ⟨rfl, h3⟩ := pI_inj (sit64 c2) (sit64 d2) h2
    obtain ⟨rfl, h4⟩ := vec_inj (fun n hn => cnt64 (c3 n hn)) (fun n hn => cnt64 (d3 n hn)) h3
    obtain ⟨rfl, h5⟩ := pI_inj (cnt64 c4) (cnt64 d4) h4
    exact ⟨by rw [ex, ey]; rfl, h5⟩
  · replace cx : (decide (MayPt a12)) = true := cx
    replace cy : (decide (MayPt b12)) = true := cy
    simp only [Bool.and_eq_true, decide_eq_true_eq] at cx cy
    have c1 := cx
    have d1 := cy
    simp only [tailC, opsC, Int.reduceBEq, cond_true, cond_false, List.map_cons, List.map_nil, List.flatten_append, List.flatten_cons, List.flatten_nil, List.append_nil, List.nil_append, List.append_assoc] at h1
    obtain ⟨rfl, h2⟩ := pt_inj c1 d1 h1
    exact ⟨by rw [ex, ey]; rfl, h2⟩
  · replace cx : (decide (sit a13) && decide (sit a14) && decide (cnt a15)) = true := cx
    replace cy : (decide (sit b13) && decide (sit b14) && decide (cnt b15)) = true := cy
    simp only [Bool.and_eq_true, decide_eq_true_eq] at cx cy
    obtain ⟨⟨c1, c2⟩, c3⟩ := cx
    obtain ⟨⟨d1, d2⟩, d3⟩ := cy
    simp only [tailC, opsC, Int.reduceBEq, cond_true, cond_false, List.map_cons, List.map_nil, List.flatten_append, List.flatten_cons, List.flatten_nil, List.append_nil, List.nil_append, List.append_assoc] at h1
    obtain ⟨rfl, h2⟩ := pI_inj (sit64 c1) (sit64 d1) h1
    obtain ⟨rfl, h3⟩ := pI_inj (sit64 c2) (sit64 d2) h2
    exact ⟨by rw [ex, ey]; rfl, h3⟩
  · replace cx : (decide (sit a13) && decide (sit a14) && decide (cnt a15)) = true := cx
    replace cy : (decide (sit b13) && decide (sit b14) && decide (cnt b15)) = true := cy
    simp only [Bool.and_eq_true, decide_eq_true_eq] at cx cy
    obtain ⟨⟨c1, c2⟩, c3⟩ := cx
    obtain ⟨⟨d1, d2⟩, d3⟩ := cy
    simp only [tailC, opsC, Int.reduceBEq, cond_true, cond_false, List.map_cons, List.map_nil, List.flatten_append, List.flatten_cons, List.flatten_nil, List.append_nil, List.nil_append, List.append_assoc] at h1
    obtain ⟨rfl, h2⟩ := pI_inj (sit64 c1) (sit64 d1) h1
    exact ⟨by rw [ex, ey]; rfl, h2⟩
  · replace cx : (decide (sit a13) && decide (sit a14) && decide (cnt a15)) = true := cx
    replace cy : (decide (sit b13) && decide (sit b14) && decide (cnt b15)) = true := cy
    simp only [Bool.and_eq_true, decide_eq_true_eq] at cx cy
    obtain ⟨⟨c1, c2⟩, c3⟩ := cx
    obtain ⟨⟨d1, d2⟩, d3⟩ := cy
    simp only [tailC, opsC, Int.reduceBEq, cond_true, cond_false, List.map_cons, List.map_nil, List.flatten_append, List.flatten_cons, List.flatten_nil, List.append_nil, List.nil_append, List.append_assoc] at h1
    obtain ⟨rfl, h2⟩ := pI_inj (sit64 c1) (sit64 d1) h1
    obtain ⟨rfl, h3⟩ := pI_inj (cnt64 c3) (cnt64 d3) h2
    exact ⟨by rw [ex, ey]; rfl, h3⟩

theorem equal_eq (N : Nat) {a b : List Int} (ha : byt a) (hb : byt b) : Fbytes_Equal N a b = some (decide (a = b)) := by
  unfold Fbytes_Equal
  refine congrArg some (bdec ?_)
  rw [beq_iff_eq, strI_inj ha hb]
theorem pI_byt {n : Int} (h : R64 n) : byt (pI n) := by
  intro x hx
  exact vint_byte 9 (zig n) (Nat.lt_trans (zig_lt h) (by decide)) x hx
end Go.Proofs.Yteinehkdjkobnaa
