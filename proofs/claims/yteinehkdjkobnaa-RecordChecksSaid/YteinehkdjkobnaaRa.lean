/-
The record layer's writer: what it puts, part by part, and whether it fits.
-/
import Derived.Test.YteinehkdjkobnaaWa
set_option linter.unusedVariables false
set_option linter.unusedSimpArgs false
namespace Go.Proofs.Yteinehkdjkobnaa
open Go Go.Ev

/-- One part put: the first error stays. -/
def put1 (s : Int × List Int) (x : List Int) : Int × List Int := if s.2.length + x.length ≤ 1048576 then (s.1, s.2 ++ x) else (if s.1 = 0 then 3 else s.1, s.2)
/-- Parts put one behind the other. -/
def wr (e : Int) (w : List Int) (cs : List (List Int)) : Int × Bool × List Int := ((cs.foldl put1 (e, w)).1, true, (cs.foldl put1 (e, w)).2)
theorem put1_len {s : Int × List Int} (h : s.2.length ≤ 1048576) (x : List Int) : (put1 s x).2.length ≤ 1048576 := by
  unfold put1; split
  · simp; omega
  · exact h
theorem puts_len : ∀ (cs : List (List Int)) {s : Int × List Int}, s.2.length ≤ 1048576 → (cs.foldl put1 s).2.length ≤ 1048576
  | [], _, h => h
  | x :: cs, s, h => puts_len cs (put1_len h x)
theorem puts_fit : ∀ (cs : List (List Int)) (e : Int) (w : List Int), w.length + cs.flatten.length ≤ 1048576 → cs.foldl put1 (e, w) = (e, w ++ cs.flatten)
  | [], e, w, _ => by simp
  | x :: cs, e, w, h => by
    rw [List.flatten_cons, List.length_append] at h
    rw [List.foldl_cons, put1, if_pos (show w.length + x.length ≤ 1048576 by omega), puts_fit cs e (w ++ x) (by rw [List.length_append]; omega), List.flatten_cons, List.append_assoc]
theorem puts_err : ∀ (cs : List (List Int)) {s : Int × List Int}, s.1 ≠ 0 → (cs.foldl put1 s).1 = s.1
  | [], _, _ => rfl
  | x :: cs, s, h => by
    have h1 : (put1 s x).1 = s.1 := by unfold put1; split <;> simp [h]
    rw [List.foldl_cons, puts_err cs (by rw [h1]; exact h), h1]
theorem puts_long : ∀ (cs : List (List Int)) (w : List Int), w.length ≤ 1048576 → 1048576 < w.length + cs.flatten.length → (cs.foldl put1 (0, w)).1 = 3
  | [], w, h, h' => by simp at h'; omega
  | x :: cs, w, h, h' => by
    rw [List.flatten_cons, List.length_append] at h'
    rw [List.foldl_cons, put1]
    split
    · rename_i hf
      exact puts_long cs (w ++ x) (by simp; simpa using hf) (by rw [List.length_append]; omega)
    · rw [puts_err cs (by simp)]; rfl
theorem wr_cat (e : Int) (w : List Int) (a b : List (List Int)) : wr (wr e w a).1 (wr e w a).2.2 b = wr e w (a ++ b) := by
  simp only [wr, List.foldl_append]
theorem wr_len {e : Int} {w : List Int} (h : w.length ≤ 1048576) (cs : List (List Int)) : (wr e w cs).2.2.length ≤ 1048576 := puts_len cs h
theorem keep_eq (N : Nat) (e : Int) {w : List Int} (x : List Int) : (Frecord_writer_keep_9cd N (putAll w x).1 e (putAll w x).2.1 (putAll w x).2.2) = some (wr e w [x]) := by
  unfold Frecord_writer_keep_9cd wr putAll
  simp only [List.foldl_cons, List.foldl_nil, put1]
  by_cases h : w.length + x.length ≤ 1048576
  · by_cases he : e = 0
    · subst he; simp [h]
    · have : (e == 0) = false := by simpa using he
      simp [h, this]
  · by_cases he : e = 0
    · subst he; simp [h]
    · have : (e == 0) = false := by simpa using he
      simp [h, this, he]
/-- An int's and a list's bytes. -/
def pI (n : Int) : List Int := vint (zig n)
def pB (l : List Int) : List Int := vint (zig (l.length : Int)) ++ l
def pT (s : List UInt8) : List Int := pB (bytesI s)
theorem bytesI_len (s : List UInt8) : (bytesI s).length = s.length := by simp [bytesI]
theorem ints_eq {N : Nat} (hN : 11 ≤ N) {l : List Int} (hl : l.length < N) (hl2 : l.length ≤ 1000000) (hr : ∀ n ∈ l, R64 n) {e : Int} {w : List Int} (hw : w.length ≤ 1048576) : Frecord_writer_ints_573 N l e true w = some (wr e w (l.map pI)) := by
  unfold Frecord_writer_ints_573
  refine iter_run (fun q : Srecord_writer_ints_573x1 => 0 ≤ q.t8 ∧ q.t8 ≤ (l.length : Int) ∧ q.b1 = true ∧ q.b12.length ≤ 1048576 ∧ wr q.b0 q.b12 ((l.drop q.t8.toNat).map pI) = wr e w (l.map pI)) (fun q => ((l.length : Int) - q.t8).toNat) ?_ N _ ⟨by simp, by simp, rfl, hw, by simp⟩ (by simp; omega)
  rintro ⟨i, b0, b1, b12⟩ nx ⟨g0, g1, rfl, g3, hq⟩ ih
  simp only at g0 g1 g3 hq ih ⊢
  by_cases hi : i < l.length
  · have hm := hr _ (lget_mem (default : Int) g0 hi)
    rw [lget_drop (default : Int) g0 hi, List.map_cons, ← List.singleton_append, ← wr_cat] at hq
    simp only [decide_eq_true hi, ibB_of g0 hi, cond_true]
    rw [F31_eq hN hm g3, Option.bind_some, keep_eq, Option.bind_some, wrap64 (by omega) (by omega)]
    exact ih ⟨i + 1, _, _, _⟩ ⟨by simp; omega, by simp; omega, rfl, wr_len g3 _, hq⟩ (by simp; omega)
  · have : decide (i < (l.length : Int)) = false := by simpa using hi
    simp only [this, cond_false]
    rw [List.drop_eq_nil_of_le (by omega)] at hq
    rw [← hq]; rfl
theorem small_eq {N : Nat} (hN : 11 ≤ N) {l : List Int} (hl : l.length < N) (hl2 : l.length ≤ 1000000) (hr : ∀ n ∈ l, R64 n) {e : Int} {w : List Int} (hw : w.length ≤ 1048576) : Frecord_writer_small_299 N l e true w = some (wr e w (l.map pI)) := by
  unfold Frecord_writer_small_299
  refine iter_run (fun q : Srecord_writer_small_299x1 => 0 ≤ q.t8 ∧ q.t8 ≤ (l.length : Int) ∧ q.b1 = true ∧ q.b12.length ≤ 1048576 ∧ wr q.b0 q.b12 ((l.drop q.t8.toNat).map pI) = wr e w (l.map pI)) (fun q => ((l.length : Int) - q.t8).toNat) ?_ N _ ⟨by simp, by simp, rfl, hw, by simp⟩ (by simp; omega)
  rintro ⟨i, b0, b1, b12⟩ nx ⟨g0, g1, rfl, g3, hq⟩ ih
  simp only at g0 g1 g3 hq ih ⊢
  by_cases hi : i < l.length
  · have hm := hr _ (lget_mem (default : Int) g0 hi)
    rw [lget_drop (default : Int) g0 hi, List.map_cons, ← List.singleton_append, ← wr_cat] at hq
    simp only [decide_eq_true hi, ibB_of g0 hi, cond_true]
    rw [F31_eq hN hm g3, Option.bind_some, keep_eq, Option.bind_some, wrap64 (by omega) (by omega)]
    exact ih ⟨i + 1, _, _, _⟩ ⟨by simp; omega, by simp; omega, rfl, wr_len g3 _, hq⟩ (by simp; omega)
  · have : decide (i < (l.length : Int)) = false := by simpa using hi
    simp only [this, cond_false]
    rw [List.drop_eq_nil_of_le (by omega)] at hq
    rw [← hq]; rfl
theorem text_eq {N : Nat} (hN : 11 ≤ N) {s : List UInt8} (hs : s.length ≤ 1048576) {w : List Int} (hw : w.length ≤ 1048576) : Fwire_Writer_Text_caa N s true w = some (putAll w (pT s)) := by
  unfold Fwire_Writer_Text_caa
  rw [F32_eq hN (by rw [bytesI_len]; exact hs) hw]; rfl
theorem texts_eq {N : Nat} (hN : 11 ≤ N) {l : List (List UInt8)} (hl : l.length < N) (hl2 : l.length ≤ 1000000) (hr : ∀ n ∈ l, n.length ≤ 1048576) {e : Int} {w : List Int} (hw : w.length ≤ 1048576) : Frecord_writer_texts_53d N l e true w = some (wr e w (l.map pT)) := by
  unfold Frecord_writer_texts_53d
  refine iter_run (fun q : Srecord_writer_texts_53dx1 => 0 ≤ q.t8 ∧ q.t8 ≤ (l.length : Int) ∧ q.b1 = true ∧ q.b12.length ≤ 1048576 ∧ wr q.b0 q.b12 ((l.drop q.t8.toNat).map pT) = wr e w (l.map pT)) (fun q => ((l.length : Int) - q.t8).toNat) ?_ N _ ⟨by simp, by simp, rfl, hw, by simp⟩ (by simp; omega)
  rintro ⟨i, b0, b1, b12⟩ nx ⟨g0, g1, rfl, g3, hq⟩ ih
  simp only at g0 g1 g3 hq ih ⊢
  by_cases hi : i < l.length
  · have hm := hr _ (lget_mem (default : (List UInt8)) g0 hi)
    rw [lget_drop (default : (List UInt8)) g0 hi, List.map_cons, ← List.singleton_append, ← wr_cat] at hq
    simp only [decide_eq_true hi, ibB_of g0 hi, cond_true]
    rw [text_eq hN hm g3, Option.bind_some, keep_eq, Option.bind_some, wrap64 (by omega) (by omega)]
    exact ih ⟨i + 1, _, _, _⟩ ⟨by simp; omega, by simp; omega, rfl, wr_len g3 _, hq⟩ (by simp; omega)
  · have : decide (i < (l.length : Int)) = false := by simpa using hi
    simp only [this, cond_false]
    rw [List.drop_eq_nil_of_le (by omega)] at hq
    rw [← hq]; rfl

/-- An operation that may be. -/
def MayOp (o : GOp) : Prop := (0 ≤ o.Stamp.Time ∧ o.Stamp.Time ≤ 1099511627776) ∧ (0 ≤ o.Stamp.Site ∧ o.Stamp.Site < 8) ∧ (1 ≤ o.Kind ∧ o.Kind ≤ 3) ∧ (0 ≤ o.Node ∧ o.Node ≤ 1125899906842624) ∧ (0 ≤ o.Parent ∧ o.Parent ≤ 1125899906842624) ∧
  o.Name.length ≤ 255 ∧ o.Key.length ≤ 255 ∧ o.Value.length ≤ 255
instance (o : GOp) : Decidable (MayOp o) := by unfold MayOp; infer_instance
/-- An operation's parts. -/
def opC (o : GOp) : List (List Int) := [o.Stamp.Time].map pI ++ [o.Stamp.Site, o.Kind].map pI ++ [o.Node, o.Parent].map pI ++ [o.Name, o.Key, o.Value].map pT
def opB (o : GOp) : List Int := (opC o).flatten
theorem R64_count {n : Int} (h : 0 ≤ n ∧ n ≤ 1125899906842624) : R64 n := ⟨by omega, by omega⟩
theorem opw_eq {N : Nat} (hN : 20 ≤ N) {o : GOp} (ho : MayOp o) {e : Int} {w : List Int} (hw : w.length ≤ 1048576) : Frecord_writer_op_e6d N o e true w = some (wr e w (opC o)) := by
  obtain ⟨h1, h2, h3, h4, h5, h6, h7, h8⟩ := ho
  unfold Frecord_writer_op_e6d
  rw [ints_eq (by omega) (by simp; omega) (by simp) (by intro n hn; simp at hn; subst hn; exact ⟨by omega, by omega⟩) hw, Option.bind_some]
  rw [show (wr e w (List.map pI [o.Stamp.Time])).2.1 = true from rfl, small_eq (by omega) (by simp; omega) (by simp) (by intro n hn; simp at hn; rcases hn with rfl | rfl <;> exact ⟨by omega, by omega⟩) (wr_len hw _), wr_cat, Option.bind_some]
  rw [show (wr e w (List.map pI [o.Stamp.Time] ++ List.map pI [o.Stamp.Site, o.Kind])).2.1 = true from rfl, ints_eq (by omega) (by simp; omega) (by simp) (by intro n hn; simp at hn; rcases hn with rfl | rfl <;> exact ⟨by omega, by omega⟩) (wr_len hw _), wr_cat, Option.bind_some]
  rw [show (wr e w (List.map pI [o.Stamp.Time] ++ List.map pI [o.Stamp.Site, o.Kind] ++ List.map pI [o.Node, o.Parent])).2.1 = true from rfl, texts_eq (by omega) (by simp; omega) (by simp) (by intro n hn; simp at hn; rcases hn with rfl | rfl | rfl <;> omega) (wr_len hw _), wr_cat, Option.bind_some]
  rfl
theorem pI_len {n : Int} (h : R64 n) : (pI n).length ≤ 10 := vint_len10 (zig_lt h)
theorem pT_len {s : List UInt8} (h : s.length ≤ 1048576) : (pT s).length ≤ s.length + 10 := by
  have := vint_len10 (zig_lt (n := ((bytesI s).length : Int)) ⟨by omega, by rw [bytesI_len]; omega⟩)
  unfold pT pB; rw [List.length_append, bytesI_len] at *; omega
theorem opB_len {o : GOp} (ho : MayOp o) : (opB o).length ≤ 845 := by
  obtain ⟨h1, h2, h3, h4, h5, h6, h7, h8⟩ := ho
  have a1 := pI_len (n := o.Stamp.Time) ⟨by omega, by omega⟩
  have a2 := pI_len (n := o.Stamp.Site) ⟨by omega, by omega⟩
  have a3 := pI_len (n := o.Kind) ⟨by omega, by omega⟩
  have a4 := pI_len (n := o.Node) ⟨by omega, by omega⟩
  have a5 := pI_len (n := o.Parent) ⟨by omega, by omega⟩
  have a6 := pT_len (s := o.Name) (by omega)
  have a7 := pT_len (s := o.Key) (by omega)
  have a8 := pT_len (s := o.Value) (by omega)
  simp only [opB, opC, List.map_cons, List.map_nil, List.flatten_append, List.flatten_cons, List.flatten_nil, List.length_append, List.length_nil]
  omega
end Go.Proofs.Yteinehkdjkobnaa
