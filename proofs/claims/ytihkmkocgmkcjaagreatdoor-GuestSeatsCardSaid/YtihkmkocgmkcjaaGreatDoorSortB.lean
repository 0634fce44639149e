/-
  The library's slices.SortFunc over a slice of spans that a function owns, by their lo.
-/
import Derived.Test.YtihkmkocgmkcjaaGreatDoorSort
import Derived.Test.YtihkmkocgmkcjaaGreatDoorShelf
import Derived.Test.YtihkmkocgmkcjaaGreatDoorTc
import Derived.Shelf.SlSortCmp.NoneTotal
namespace Go.Proofs.YtihkmkocgmkcjaaGreatDoor
open Go.RowKit Go.Shelf Kr

theorem elem_Span : ElemOf Tryz.prog 139 28 (.agg #[.int .i64 0, .int .i64 0]) 2 16 := ⟨Tryz.underlying139, by kernel_rfl, rfl, by decide, by decide⟩
def spanCs (l : List Span) : List Value := l.flatMap fun t => [.int .i64 t.lo, .int .i64 t.hi]
theorem spanCs_snoc (l : List Span) (s : Span) : spanCs (l ++ [s]) = spanCs l ++ [.int .i64 s.lo, .int .i64 s.hi] := by simp [spanCs]
theorem spanCs_len (l : List Span) : (spanCs l).length = l.length * 2 := flat_len l (fun _ _ => rfl)
theorem spanCs_at (r : List Span) (k : Span) (j : Nat) (u : Value) (h : ([.int .i64 k.lo, .int .i64 k.hi] : List Value)[j]? = some u) : (spanCs (r ++ [k]))[r.length * 2 + j]? = some u := by
  rw [spanCs_snoc, List.getElem?_append_right (by rw [spanCs_len]; omega), spanCs_len, Nat.add_sub_cancel_left]; exact h
theorem spanCs_set (r : List Span) (k : Span) (u : Int) : (spanCs (r ++ [k])).set (r.length * 2 + 1) (.int .i64 u) = spanCs (r ++ [⟨k.lo, u⟩]) := by
  rw [spanCs_snoc, spanCs_snoc, List.set_append_right _ _ (by rw [spanCs_len]; omega), spanCs_len, Nat.add_sub_cancel_left]; rfl
theorem owns_len {w : World} {base size n : Nat} {e : TypeId} {v : Value} {xs : List Value} (h : w.ownsRow base e size v n xs) : ∃ p cap, v = .slice p n cap := by
  rcases h.2 with ⟨rfl, rfl⟩ | ⟨g, cap, cur, rfl, _⟩
  · exact ⟨_, _, rfl⟩
  · exact ⟨_, _, rfl⟩
theorem owns_form {w : World} {base size n : Nat} {e : TypeId} {v : Value} {xs : List Value} (h : w.ownsRow base e size v n xs) (hn : 0 < n) : ∃ g cap, v = .slice (some ⟨g, 0, none⟩) n cap ∧ base ≤ g ∧ g < w.heap.size := by
  rcases h.2 with ⟨_, h0⟩ | ⟨g, cap, cur, hv, hb, hg, _⟩
  · omega
  · exact ⟨g, cap, hv, hb, (Array.getElem?_eq_some_iff.1 hg).1⟩
theorem one_Span (s : Span) : ∀ u ∈ ([.int .i64 s.lo, .int .i64 s.hi] : List Value), u.oneCell' = true := by intro u hu; simp at hu; rcases hu with rfl | rfl <;> rfl
theorem row_spans {w : World} {base : Nat} {e : TypeId} {v : Value} {l : List Span} (h : w.ownsRow base e 2 v l.length (spanCs l)) : IsRow (fun t : Kr.Span => [.int .i64 t.lo, .int .i64 t.hi]) 2 w v l :=
  IsRow.of_owns h (fun _ _ => rfl)

theorem push_len : ∀ (l few : List Span), (l.foldl push few).length ≤ few.length + l.length := by
  intro l
  induction l with
  | nil => intro few; simp
  | cons s l ih =>
    intro few
    rw [List.foldl_cons]
    have := ih (push few s)
    have h2 : (push few s).length ≤ few.length + 1 := by
      rcases snoc_cases few with rfl | ⟨r, k, rfl⟩
      · simp [push_nil]
      · rw [push_snoc]; split <;> simp
    rw [List.length_cons]; omega
theorem fold_hi {l : List Span} {B : Int} (h : ∀ y ∈ l, 0 ≤ y.hi ∧ y.hi ≤ B) : ∀ y ∈ l.foldl push [], 0 ≤ y.hi ∧ y.hi ≤ B := by
  have key : ∀ (l few : List Span), (∀ y ∈ l, 0 ≤ y.hi ∧ y.hi ≤ B) → (∀ y ∈ few, 0 ≤ y.hi ∧ y.hi ≤ B) → ∀ y ∈ l.foldl push few, 0 ≤ y.hi ∧ y.hi ≤ B := by
    intro l
    induction l with
    | nil => intro few _ h; exact h
    | cons s l ih =>
      intro few h1 h2
      rw [List.foldl_cons]
      refine ih _ (fun y hy => h1 y (List.mem_cons_of_mem _ hy)) ?_
      have hs := h1 s (List.mem_cons_self ..)
      rcases snoc_cases few with rfl | ⟨r, k, rfl⟩
      · rw [push_nil]; intro y hy; rw [List.mem_singleton.1 hy]; exact hs
      · have hk := h2 k (by simp)
        rw [push_snoc]
        split
        · intro y hy
          rcases List.mem_append.1 hy with h | h
          · exact h2 y (List.mem_append_left _ h)
          · rw [List.mem_singleton.1 h]; simp only; omega
        · intro y hy
          rcases List.mem_append.1 hy with h | h
          · exact h2 y h
          · rw [List.mem_singleton.1 h]; exact hs
  exact key l [] h (by simp)

/-- A span within bounds. -/
abbrev SpanB := { s : Span // 0 ≤ s.lo ∧ s.lo ≤ 100000000000 }
instance : Inhabited SpanB := ⟨⟨⟨0, 0⟩, by decide⟩⟩
def encB (s : SpanB) : List Value := [.int .i64 s.1.lo, .int .i64 s.1.hi]
def cmpB (x y : SpanB) : Int := x.1.lo - y.1.lo
theorem ltB (x y : SpanB) : ltOf cmpB x y = decide (x.1.lo < y.1.lo) := by
  unfold ltOf cmpB
  rw [Bool.eq_iff_iff]; simp; omega
theorem swoB : Sort.SWO (ltOf cmpB) where
  irrefl x := by rw [ltB]; simp
  trans x y z h1 h2 := by rw [ltB] at *; simp at *; omega
  ntrans x y z h1 h2 := by rw [ltB] at *; simp at *; omega

/-- What slices.SortFunc leaves of a slice of spans that is owned. -/
def Sorted (w : World) (base : Nat) (v : Value) (l : List Span) (e : Ending) (w' : World) : Prop :=
  e = .returned (.tuple #[]) ∧ ∃ l', l'.Perm l ∧ ByLo l' ∧ w'.ownsRow base 28 2 v l.length (spanCs l') ∧ ∀ A : World, A.Exts w → A.heap.size ≤ base → A.Exts w'
theorem owns_cases {w : World} {base size n : Nat} {e : TypeId} {v : Value} {xs : List Value} (h : w.ownsRow base e size v n xs) : (v = .slice none 0 0 ∧ n = 0) ∨ ∃ g cap, v = .slice (some ⟨g, 0, none⟩) n cap ∧ base ≤ g ∧ g < w.heap.size := by
  rcases h.2 with h1 | ⟨g, cap, cur, hv, hb, hg, _⟩
  · exact .inl h1
  · exact .inr ⟨g, cap, hv, hb, (Array.getElem?_eq_some_iff.1 hg).1⟩
theorem boxSpans (l : List Span) (hin : Within 0 100000000000 l) (hf : Full l) : ∃ d : List SpanB, d.map Subtype.val = l := by
  induction l with
  | nil => exact ⟨[], rfl⟩
  | cons s l ih =>
    obtain ⟨d, hd⟩ := ih (fun t ht => hin t (List.mem_cons_of_mem _ ht)) (fun t ht => hf t (List.mem_cons_of_mem _ ht))
    have h1 := hin s (List.mem_cons_self ..)
    have h2 := hf s (List.mem_cons_self ..)
    exact ⟨⟨s, h1.1, by omega⟩ :: d, by simp [hd]⟩
theorem spanCs_box (d : List SpanB) : spanCs (d.map Subtype.val) = d.flatMap encB := by
  unfold spanCs; rw [List.flatMap_map]; rfl
theorem byLo_of_sorted {d' : Array SpanB} {n : Nat} {m : Nat} (h : Sort.SortedIn (ltOf cmpB) 0 m d') (hs : d'.size = n) (hm : m = n) : ByLo (d'.toList.map Subtype.val) := by
  subst hs
  subst hm
  unfold ByLo
  rw [List.pairwise_map, List.pairwise_iff_getElem]
  intro i j hi hj hij
  have h1 := h i j (Nat.zero_le _) hij (by simpa using hj)
  rw [ltB] at h1
  have hi2 : i < d'.size := by simpa using hi
  have hj2 : j < d'.size := by simpa using hj
  rw [getElem!_pos d' j hj2, getElem!_pos d' i hi2] at h1
  simp at h1
  simpa using h1

set_option maxHeartbeats 400000 in
theorem scale_merged_Span_1_any (x y : SpanB) (W : World) : Calls Tryz.prog 178 #[.agg #[.int .i64 x.1.lo, .int .i64 x.1.hi], .agg #[.int .i64 y.1.lo, .int .i64 y.1.hi]] W fun e w' => e = .returned (.int .i64 (cmpB x y)) ∧ ∃ q os', w' = Sort.grow (W.drewN q) os' := by
  obtain ⟨hx1, hx2⟩ := x.2
  obtain ⟨hy1, hy2⟩ := y.2
  unfold cmpB
  go_enter Tryz.func178, Tryz.ntmps178
  go_wp2_with fail
  go_ret
  exact ⟨rfl, 0, _, by rw [Sort.alloc_eq_grow, Sort.alloc_eq_grow, Sort.grow_grow]; rfl⟩
theorem scale_merged_Span_1_lays (blk off size : Nat) (w : World) : CmpLays Tryz.prog 178 #[] encB 2 cmpB blk off size w := fun _ _ _ _ x y => scale_merged_Span_1_any x y _
theorem sort_spans (base : Nat) (v : Value) (l : List Span) (w : World) (h : w.ownsRow base 28 2 v l.length (spanCs l)) (hin : Within 0 100000000000 l) (hf : Full l) (hlen : l.length ≤ 1000000000000) :
    Calls Tryz.prog 177 #[v, .func (.func 178) #[] #[]] w (Sorted w base v l) := by
  have eg : ∀ args w, (callFunc 178 args).run Tryz.prog w = .ok (.enter 178 args) w := enters_of Tryz.func178 (by kernel_rfl) rfl
  rcases owns_cases h with ⟨rfl, h0⟩ | ⟨g, cap, rfl, hb, hg⟩
  · have hl : l = [] := List.eq_nil_of_length_eq_zero h0
    subst hl
    have hcon := AnyF.slices_SortFunc_none (ρ := Tryz.sortSpan_ren) { Tryz.sortSpan with } none 0 (.func (.func 178) #[] #[]) w
    refine Calls.mono hcon ?_
    rintro e w' ⟨rfl, rfl⟩
    exact ⟨rfl, [], .refl _, List.Pairwise.nil, h, fun A hA _ => hA⟩
  · obtain ⟨d, hd⟩ := boxSpans l hin hf
    have hsp : spanCs l = d.flatMap encB := by rw [← hd]; exact spanCs_box d
    have hln : l.length = d.length := by rw [← hd, List.length_map]
    rw [hsp, hln] at h
    have hcon := AnyQ.slices_SortFunc Tryz.sortSpan 2 Tryz.isAgg28 Tryz.sizeOf28 encB (fun _ => rfl) (fun x u hu => one_Span x.1 u hu) cmpB swoB 178 #[] g 0 cap d.toArray w eg (scale_merged_Span_1_lays g 0 _ w) (sort_holds (fun _ => rfl) (by decide) h) hg (by simp; omega)
    rw [hln]
    change Calls Tryz.prog 177 #[.slice (some ⟨g, 0, none⟩) d.length cap, .func (.func 178) #[] #[]] w _ at hcon
    refine Calls.mono hcon ?_
    rintro e w' ⟨rfl, d', n, os, hp, hs, rfl⟩
    obtain ⟨hps, _, hperm⟩ := hp
    have hds : d'.size = d.length := by simpa using hps
    refine ⟨rfl, d'.toList.map Subtype.val, ?_, ?_, ?_, fun A hA hB => sort_exts hA (Nat.le_trans hB hb) _ _ _⟩
    · rw [← hd]
      refine List.Perm.map _ ?_
      have e1 : d'.extract 0 d.toArray.size = d' := by rw [Array.extract_eq_self_of_le]; simp [hds]
      have e2 : d.toArray.extract 0 d.toArray.size = d.toArray := by rw [Array.extract_eq_self_of_le]; simp
      rw [e1, e2] at hperm
      simpa using hperm
    · exact byLo_of_sorted hs hds (by simp)
    · rw [hln, spanCs_box]
      exact sort_left (enc := encB) (k := 2) (fun _ => rfl) (by decide) h n d' os hds
set_option maxHeartbeats 400000 in
theorem scale_merged_truth_1_any (x y : SpanB) (W : World) : Calls Tryz.prog 179 #[.agg #[.int .i64 x.1.lo, .int .i64 x.1.hi], .agg #[.int .i64 y.1.lo, .int .i64 y.1.hi]] W fun e w' => e = .returned (.int .i64 (cmpB x y)) ∧ ∃ q os', w' = Sort.grow (W.drewN q) os' := by
  obtain ⟨hx1, hx2⟩ := x.2
  obtain ⟨hy1, hy2⟩ := y.2
  unfold cmpB
  go_enter Tryz.func179, Tryz.ntmps179
  go_wp2_with fail
  go_ret
  exact ⟨rfl, 0, _, by rw [Sort.alloc_eq_grow, Sort.alloc_eq_grow, Sort.grow_grow]; rfl⟩
theorem scale_merged_truth_1_lays (blk off size : Nat) (w : World) : CmpLays Tryz.prog 179 #[] encB 2 cmpB blk off size w := fun _ _ _ _ x y => scale_merged_truth_1_any x y _
theorem sort_spans2 (base : Nat) (v : Value) (l : List Span) (w : World) (h : w.ownsRow base 28 2 v l.length (spanCs l)) (hin : Within 0 100000000000 l) (hf : Full l) (hlen : l.length ≤ 1000000000000) :
    Calls Tryz.prog 177 #[v, .func (.func 179) #[] #[]] w (Sorted w base v l) := by
  have eg : ∀ args w, (callFunc 179 args).run Tryz.prog w = .ok (.enter 179 args) w := enters_of Tryz.func179 (by kernel_rfl) rfl
  rcases owns_cases h with ⟨rfl, h0⟩ | ⟨g, cap, rfl, hb, hg⟩
  · have hl : l = [] := List.eq_nil_of_length_eq_zero h0
    subst hl
    have hcon := AnyF.slices_SortFunc_none (ρ := Tryz.sortSpan_ren) { Tryz.sortSpan with } none 0 (.func (.func 179) #[] #[]) w
    refine Calls.mono hcon ?_
    rintro e w' ⟨rfl, rfl⟩
    exact ⟨rfl, [], .refl _, List.Pairwise.nil, h, fun A hA _ => hA⟩
  · obtain ⟨d, hd⟩ := boxSpans l hin hf
    have hsp : spanCs l = d.flatMap encB := by rw [← hd]; exact spanCs_box d
    have hln : l.length = d.length := by rw [← hd, List.length_map]
    rw [hsp, hln] at h
    have hcon := AnyQ.slices_SortFunc Tryz.sortSpan 2 Tryz.isAgg28 Tryz.sizeOf28 encB (fun _ => rfl) (fun x u hu => one_Span x.1 u hu) cmpB swoB 179 #[] g 0 cap d.toArray w eg (scale_merged_truth_1_lays g 0 _ w) (sort_holds (fun _ => rfl) (by decide) h) hg (by simp; omega)
    rw [hln]
    change Calls Tryz.prog 177 #[.slice (some ⟨g, 0, none⟩) d.length cap, .func (.func 179) #[] #[]] w _ at hcon
    refine Calls.mono hcon ?_
    rintro e w' ⟨rfl, d', n, os, hp, hs, rfl⟩
    obtain ⟨hps, _, hperm⟩ := hp
    have hds : d'.size = d.length := by simpa using hps
    refine ⟨rfl, d'.toList.map Subtype.val, ?_, ?_, ?_, fun A hA hB => sort_exts hA (Nat.le_trans hB hb) _ _ _⟩
    · rw [← hd]
      refine List.Perm.map _ ?_
      have e1 : d'.extract 0 d.toArray.size = d' := by rw [Array.extract_eq_self_of_le]; simp [hds]
      have e2 : d.toArray.extract 0 d.toArray.size = d.toArray := by rw [Array.extract_eq_self_of_le]; simp
      rw [e1, e2] at hperm
      simpa using hperm
    · exact byLo_of_sorted hs hds (by simp)
    · rw [hln, spanCs_box]
      exact sort_left (enc := encB) (k := 2) (fun _ => rfl) (by decide) h n d' os hds
end Go.Proofs.YtihkmkocgmkcjaaGreatDoor
