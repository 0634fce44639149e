/-
  Several texts in one: see the heads of its parts.
-/

import Derived.Test.YtcickafaomfbmaaGreatDoorZSJesSort
import Derived.Test.YtcickafaomfbmaaGreatDoorZSJesShelf
import Derived.Test.YtcickafaomfbmaaGreatDoorZSJesTaC
import Derived.Shelf.SlSortCmp.NoneTotal
import Derived.Test.YtcickafaomfbmaaGreatDoorZSJesBt
import Derived.Test.YtcickafaomfbmaaGreatDoorZSJesPl
/-
  The library's slices.SortFunc over a slice of spans that a function owns, by their lo.
-/
namespace Go.Proofs.YtcickafaomfbmaaGreatDoor
open Go.RowKit Go.Shelf Kr

theorem elem_Span : ElemOf Tryz.prog 115 28 (.agg #[.int .i64 0, .int .i64 0]) 2 16 := ⟨Tryz.underlying115, by kernel_rfl, rfl, by decide, by decide⟩
def spanCs (l : List Span) : List Value := l.flatMap fun t => [.int .i64 t.lo, .int .i64 t.hi]
theorem spanCs_snoc (l : List Span) (s : Span) : spanCs (l ++ [s]) = spanCs l ++ [.int .i64 s.lo, .int .i64 s.hi] := by simp [spanCs]
theorem spanCs_len (l : List Span) : (spanCs l).length = l.length * 2 := flat_len l (fun _ _ => rfl)
theorem spanCs_at (r : List Span) (k : Span) (j : Nat) (u : Value) (h : ([.int .i64 k.lo, .int .i64 k.hi] : List Value)[j]? = some u) : (spanCs (r ++ [k]))[r.length * 2 + j]? = some u := by
  rw [spanCs_snoc, List.getElem?_append_right (by rw [spanCs_len]; omega), spanCs_len, Nat.add_sub_cancel_left]; exact h
theorem spanCs_set (r : List Span) (k : Span) (u : Int) : (spanCs (r ++ [k])).set (r.length * 2 + 1) (.int .i64 u) = spanCs (r ++ [⟨k.lo, u⟩]) := by
  rw [spanCs_snoc, spanCs_snoc, List.set_append_right _ _ (by rw [spanCs_len]; omega), spanCs_len, Nat.add_sub_cancel_left]; rfl
theorem owns_len {w : World} {base size n : Nat} {e : TypeId} {v : Value} {xs : List Value} (h : w.ownsRow base e size v n xs) : ∃ p cap, v = .slice p n cap := by
  rcases h.2 with ⟨rfl, rfl⟩ | ⟨g, cap, cur, rfl, _⟩
  · exact ⟨_, _, rfl⟩
  · exact ⟨_, _, rfl⟩
theorem owns_form {w : World} {base size n : Nat} {e : TypeId} {v : Value} {xs : List Value} (h : w.ownsRow base e size v n xs) (hn : 0 < n) : ∃ g cap, v = .slice (some ⟨g, 0, none⟩) n cap ∧ base ≤ g ∧ g < w.heap.size := by
  rcases h.2 with ⟨_, h0⟩ | ⟨g, cap, cur, hv, hb, hg, _⟩
  · omega
  · exact ⟨g, cap, hv, hb, (Array.getElem?_eq_some_iff.1 hg).1⟩
theorem one_Span (s : Span) : ∀ u ∈ ([.int .i64 s.lo, .int .i64 s.hi] : List Value), u.oneCell' = true := by intro u hu; simp at hu; rcases hu with rfl | rfl <;> rfl
theorem row_spans {w : World} {base : Nat} {e : TypeId} {v : Value} {l : List Span} (h : w.ownsRow base e 2 v l.length (spanCs l)) : IsRow (fun t : Kr.Span => [.int .i64 t.lo, .int .i64 t.hi]) 2 w v l :=
  IsRow.of_owns h (fun _ _ => rfl)

theorem push_len : ∀ (l few : List Span), (l.foldl push few).length ≤ few.length + l.length := by
  intro l
  induction l with
  | nil => intro few; simp
  | cons s l ih =>
    intro few
    rw [List.foldl_cons]
    have := ih (push few s)
    have h2 : (push few s).length ≤ few.length + 1 := by
      rcases snoc_cases few with rfl | ⟨r, k, rfl⟩
      · simp [push_nil]
      · rw [push_snoc]; split <;> simp
    rw [List.length_cons]; omega
theorem fold_hi {l : List Span} {B : Int} (h : ∀ y ∈ l, 0 ≤ y.hi ∧ y.hi ≤ B) : ∀ y ∈ l.foldl push [], 0 ≤ y.hi ∧ y.hi ≤ B := by
  have key : ∀ (l few : List Span), (∀ y ∈ l, 0 ≤ y.hi ∧ y.hi ≤ B) → (∀ y ∈ few, 0 ≤ y.hi ∧ y.hi ≤ B) → ∀ y ∈ l.foldl push few, 0 ≤ y.hi ∧ y.hi ≤ B := by
    intro l
    induction l with
    | nil => intro few _ h; exact h
    | cons s l ih =>
      intro few h1 h2
      rw [List.foldl_cons]
      refine ih _ (fun y hy => h1 y (List.mem_cons_of_mem _ hy)) ?_
      have hs := h1 s (List.mem_cons_self ..)
      rcases snoc_cases few with rfl | ⟨r, k, rfl⟩
      · rw [push_nil]; intro y hy; rw [List.mem_singleton.1 hy]; exact hs
      · have hk := h2 k (by simp)
        rw [push_snoc]
        split
        · intro y hy
          rcases List.mem_append.1 hy with h | h
          · exact h2 y (List.mem_append_left _ h)
          · rw [List.mem_singleton.1 h]; simp only; omega
        · intro y hy
          rcases List.mem_append.1 hy with h | h
          · exact h2 y h
          · rw [List.mem_singleton.1 h]; exact hs
  exact key l [] h (by simp)

/-- A span within bounds. -/
abbrev SpanB := { s : Span // 0 ≤ s.lo ∧ s.lo ≤ 100000000000 }
instance : Inhabited SpanB := ⟨⟨⟨0, 0⟩, by decide⟩⟩
def encB (s : SpanB) : List Value := [.int .i64 s.1.lo, .int .i64 s.1.hi]
def cmpB (x y : SpanB) : Int := x.1.lo - y.1.lo
theorem ltB (x y : SpanB) : ltOf cmpB x y = decide (x.1.lo < y.1.lo) := by
  unfold ltOf cmpB
  rw [Bool.eq_iff_iff]; simp; omega
theorem swoB : Sort.SWO (ltOf cmpB) where
  irrefl x := by rw [ltB]; simp
  trans x y z h1 h2 := by rw [ltB] at *; simp at *; omega
  ntrans x y z h1 h2 := by rw [ltB] at *; simp at *; omega

/-- What slices.SortFunc leaves of a slice of spans that is owned. -/
def Sorted (w : World) (base : Nat) (v : Value) (l : List Span) (e : Ending) (w' : World) : Prop :=
  e = .returned (.tuple #[]) ∧ ∃ l', l'.Perm l ∧ ByLo l' ∧ w'.ownsRow base 28 2 v l.length (spanCs l') ∧ ∀ A : World, A.Exts w → A.heap.size ≤ base → A.Exts w'
theorem owns_cases {w : World} {base size n : Nat} {e : TypeId} {v : Value} {xs : List Value} (h : w.ownsRow base e size v n xs) : (v = .slice none 0 0 ∧ n = 0) ∨ ∃ g cap, v = .slice (some ⟨g, 0, none⟩) n cap ∧ base ≤ g ∧ g < w.heap.size := by
  rcases h.2 with h1 | ⟨g, cap, cur, hv, hb, hg, _⟩
  · exact .inl h1
  · exact .inr ⟨g, cap, hv, hb, (Array.getElem?_eq_some_iff.1 hg).1⟩
theorem boxSpans (l : List Span) (hin : Within 0 100000000000 l) (hf : Full l) : ∃ d : List SpanB, d.map Subtype.val = l := by
  induction l with
  | nil => exact ⟨[], rfl⟩
  | cons s l ih =>
    obtain ⟨d, hd⟩ := ih (fun t ht => hin t (List.mem_cons_of_mem _ ht)) (fun t ht => hf t (List.mem_cons_of_mem _ ht))
    have h1 := hin s (List.mem_cons_self ..)
    have h2 := hf s (List.mem_cons_self ..)
    exact ⟨⟨s, h1.1, by omega⟩ :: d, by simp [hd]⟩
theorem spanCs_box (d : List SpanB) : spanCs (d.map Subtype.val) = d.flatMap encB := by
  unfold spanCs; rw [List.flatMap_map]; rfl
theorem byLo_of_sorted {d' : Array SpanB} {n : Nat} {m : Nat} (h : Sort.SortedIn (ltOf cmpB) 0 m d') (hs : d'.size = n) (hm : m = n) : ByLo (d'.toList.map Subtype.val) := by
  subst hs
  subst hm
  unfold ByLo
  rw [List.pairwise_map, List.pairwise_iff_getElem]
  intro i j hi hj hij
  have h1 := h i j (Nat.zero_le _) hij (by simpa using hj)
  rw [ltB] at h1
  have hi2 : i < d'.size := by simpa using hi
  have hj2 : j < d'.size := by simpa using hj
  rw [getElem!_pos d' j hj2, getElem!_pos d' i hi2] at h1
  simp at h1
  simpa using h1

set_option maxHeartbeats 400000 in
theorem scale_merged_Span_1_any (x y : SpanB) (W : World) : Calls Tryz.prog 159 #[.agg #[.int .i64 x.1.lo, .int .i64 x.1.hi], .agg #[.int .i64 y.1.lo, .int .i64 y.1.hi]] W fun e w' => e = .returned (.int .i64 (cmpB x y)) ∧ ∃ q os', w' = Sort.grow (W.drewN q) os' := by
  obtain ⟨hx1, hx2⟩ := x.2
  obtain ⟨hy1, hy2⟩ := y.2
  unfold cmpB
  go_enter Tryz.func159, Tryz.ntmps159
  go_wp2_with fail
  go_ret
  exact ⟨rfl, 0, _, by rw [Sort.alloc_eq_grow, Sort.alloc_eq_grow, Sort.grow_grow]; rfl⟩
theorem scale_merged_Span_1_lays (blk off size : Nat) (w : World) : CmpLays Tryz.prog 159 #[] encB 2 cmpB blk off size w := fun _ _ _ _ x y => scale_merged_Span_1_any x y _
theorem sort_spans (base : Nat) (v : Value) (l : List Span) (w : World) (h : w.ownsRow base 28 2 v l.length (spanCs l)) (hin : Within 0 100000000000 l) (hf : Full l) (hlen : l.length ≤ 1000000000000) :
    Calls Tryz.prog 158 #[v, .func (.func 159) #[] #[]] w (Sorted w base v l) := by
  have eg : ∀ args w, (callFunc 159 args).run Tryz.prog w = .ok (.enter 159 args) w := enters_of Tryz.func159 (by kernel_rfl) rfl
  rcases owns_cases h with ⟨rfl, h0⟩ | ⟨g, cap, rfl, hb, hg⟩
  · have hl : l = [] := List.eq_nil_of_length_eq_zero h0
    subst hl
    have hcon := AnyF.slices_SortFunc_none (ρ := Tryz.sortSpan_ren) { Tryz.sortSpan with } none 0 (.func (.func 159) #[] #[]) w
    refine Calls.mono hcon ?_
    rintro e w' ⟨rfl, rfl⟩
    exact ⟨rfl, [], .refl _, List.Pairwise.nil, h, fun A hA _ => hA⟩
  · obtain ⟨d, hd⟩ := boxSpans l hin hf
    have hsp : spanCs l = d.flatMap encB := by rw [← hd]; exact spanCs_box d
    have hln : l.length = d.length := by rw [← hd, List.length_map]
    rw [hsp, hln] at h
    have hcon := AnyQ.slices_SortFunc Tryz.sortSpan 2 Tryz.isAgg28 Tryz.sizeOf28 encB (fun _ => rfl) (fun x u hu => one_Span x.1 u hu) cmpB swoB 159 #[] g 0 cap d.toArray w eg (scale_merged_Span_1_lays g 0 _ w) (sort_holds (fun _ => rfl) (by decide) h) hg (by simp; omega)
    rw [hln]
    change Calls Tryz.prog 158 #[.slice (some ⟨g, 0, none⟩) d.length cap, .func (.func 159) #[] #[]] w _ at hcon
    refine Calls.mono hcon ?_
    rintro e w' ⟨rfl, d', n, os, hp, hs, rfl⟩
    obtain ⟨hps, _, hperm⟩ := hp
    have hds : d'.size = d.length := by simpa using hps
    refine ⟨rfl, d'.toList.map Subtype.val, ?_, ?_, ?_, fun A hA hB => sort_exts hA (Nat.le_trans hB hb) _ _ _⟩
    · rw [← hd]
      refine List.Perm.map _ ?_
      have e1 : d'.extract 0 d.toArray.size = d' := by rw [Array.extract_eq_self_of_le]; simp [hds]
      have e2 : d.toArray.extract 0 d.toArray.size = d.toArray := by rw [Array.extract_eq_self_of_le]; simp
      rw [e1, e2] at hperm
      simpa using hperm
    · exact byLo_of_sorted hs hds (by simp)
    · rw [hln, spanCs_box]
      exact sort_left (enc := encB) (k := 2) (fun _ => rfl) (by decide) h n d' os hds
set_option maxHeartbeats 400000 in
theorem scale_merged_truth_1_any (x y : SpanB) (W : World) : Calls Tryz.prog 160 #[.agg #[.int .i64 x.1.lo, .int .i64 x.1.hi], .agg #[.int .i64 y.1.lo, .int .i64 y.1.hi]] W fun e w' => e = .returned (.int .i64 (cmpB x y)) ∧ ∃ q os', w' = Sort.grow (W.drewN q) os' := by
  obtain ⟨hx1, hx2⟩ := x.2
  obtain ⟨hy1, hy2⟩ := y.2
  unfold cmpB
  go_enter Tryz.func160, Tryz.ntmps160
  go_wp2_with fail
  go_ret
  exact ⟨rfl, 0, _, by rw [Sort.alloc_eq_grow, Sort.alloc_eq_grow, Sort.grow_grow]; rfl⟩
theorem scale_merged_truth_1_lays (blk off size : Nat) (w : World) : CmpLays Tryz.prog 160 #[] encB 2 cmpB blk off size w := fun _ _ _ _ x y => scale_merged_truth_1_any x y _
theorem sort_spans2 (base : Nat) (v : Value) (l : List Span) (w : World) (h : w.ownsRow base 28 2 v l.length (spanCs l)) (hin : Within 0 100000000000 l) (hf : Full l) (hlen : l.length ≤ 1000000000000) :
    Calls Tryz.prog 158 #[v, .func (.func 160) #[] #[]] w (Sorted w base v l) := by
  have eg : ∀ args w, (callFunc 160 args).run Tryz.prog w = .ok (.enter 160 args) w := enters_of Tryz.func160 (by kernel_rfl) rfl
  rcases owns_cases h with ⟨rfl, h0⟩ | ⟨g, cap, rfl, hb, hg⟩
  · have hl : l = [] := List.eq_nil_of_length_eq_zero h0
    subst hl
    have hcon := AnyF.slices_SortFunc_none (ρ := Tryz.sortSpan_ren) { Tryz.sortSpan with } none 0 (.func (.func 160) #[] #[]) w
    refine Calls.mono hcon ?_
    rintro e w' ⟨rfl, rfl⟩
    exact ⟨rfl, [], .refl _, List.Pairwise.nil, h, fun A hA _ => hA⟩
  · obtain ⟨d, hd⟩ := boxSpans l hin hf
    have hsp : spanCs l = d.flatMap encB := by rw [← hd]; exact spanCs_box d
    have hln : l.length = d.length := by rw [← hd, List.length_map]
    rw [hsp, hln] at h
    have hcon := AnyQ.slices_SortFunc Tryz.sortSpan 2 Tryz.isAgg28 Tryz.sizeOf28 encB (fun _ => rfl) (fun x u hu => one_Span x.1 u hu) cmpB swoB 160 #[] g 0 cap d.toArray w eg (scale_merged_truth_1_lays g 0 _ w) (sort_holds (fun _ => rfl) (by decide) h) hg (by simp; omega)
    rw [hln]
    change Calls Tryz.prog 158 #[.slice (some ⟨g, 0, none⟩) d.length cap, .func (.func 160) #[] #[]] w _ at hcon
    refine Calls.mono hcon ?_
    rintro e w' ⟨rfl, d', n, os, hp, hs, rfl⟩
    obtain ⟨hps, _, hperm⟩ := hp
    have hds : d'.size = d.length := by simpa using hps
    refine ⟨rfl, d'.toList.map Subtype.val, ?_, ?_, ?_, fun A hA hB => sort_exts hA (Nat.le_trans hB hb) _ _ _⟩
    · rw [← hd]
      refine List.Perm.map _ ?_
      have e1 : d'.extract 0 d.toArray.size = d' := by rw [Array.extract_eq_self_of_le]; simp [hds]
      have e2 : d.toArray.extract 0 d.toArray.size = d.toArray := by rw [Array.extract_eq_self_of_le]; simp
      rw [e1, e2] at hperm
      simpa using hperm
    · exact byLo_of_sorted hs hds (by simp)
    · rw [hln, spanCs_box]
      exact sort_left (enc := encB) (k := 2) (fun _ => rfl) (by decide) h n d' os hds
end Go.Proofs.YtcickafaomfbmaaGreatDoor

/-
  Walks of package scale and of its reference: how warm and how hard runners are.
-/
namespace Go.Proofs.YtcickafaomfbmaaGreatDoor
open Go.RowKit Kr

set_option maxRecDepth 4000 in
set_option maxHeartbeats 1000000 in
theorem scale_Warm_any (g : Gear) (lv rv sv : Value) (w : World) (hg : GearAt w (g, lv, rv, sv)) :
    Calls Tryz.prog 252 #[.agg #[lv, .int .i64 g.added, .int .i64 g.base, .int .i64 g.jitter, rv, sv, .int .i64 g.spread, .bool g.stamp]] w fun e w' => ∃ v, e = .returned (.tuple #[v, .int .i64 (warm g).2]) ∧ IsRow (fun t : Kr.Span => [.int .i64 t.lo, .int .i64 t.hi]) 2 w' v (warm g).1 ∧ w.Exts w' := by
  have hl1 := hg.l
  have hl2 := hg.r
  have hl3 := hg.s
  dsimp only at hl1 hl2 hl3
  obtain ⟨p1, cap1, rfl⟩ := hl1.len
  obtain ⟨p2, cap2, rfl⟩ := hl2.len
  obtain ⟨p3, cap3, rfl⟩ := hl3.len
  have HG := Lib.hid hg
  clear hg
  cases hb : bare g
  · have hfin : warm g = ([], 41) := by unfold warm; rw [hb]; rfl
    rw [hfin]
    have HB := Lib.hid hb
    clear hb
    clear hfin
    go_enter Tryz.func252, Tryz.ntmps252
    go_wp2_with (go_at_call 95; refine (scale_bare_any g _ _ _ _ (HG.out.r.mono exq) (HG.out.s.mono exq) HG.out.len).mono ?_; rintro e w' ⟨rfl, X2, rfl⟩; rw [HB.out])
    go_ret2
    exact ⟨_, rfl, IsRow.nil _, exq⟩
  · have hfin : warm g = (g.runners.map (warmAt g), 0) := by unfold warm; rw [hb]; rfl
    rw [hfin]
    obtain ⟨_, hb2, hb3, hb4, hb5, _, _, _⟩ := bare_bounds hb
    obtain ⟨p2', b2, o2, cap2', e, hm2, hp2, hc2⟩ := hl2.ex
    cases e
    have HB := Lib.hid hb
    clear hb
    have HB4 := Lib.hid hb4
    clear hb4
    have HP2 := Lib.hid hp2
    clear hp2
    have HC2 := Lib.hid hc2
    clear hc2
    clear hfin hl2
    go_enter Tryz.func252, Tryz.ntmps252
    go_wp2_with (go_at_call 95; refine (scale_bare_any g _ _ _ _ (HG.out.r.mono exq) (HG.out.s.mono exq) HG.out.len).mono ?_; rintro e w' ⟨rfl, X2, rfl⟩; rw [HB.out])
    go_loopw [4, 13] (fun out i wr => ∃ k : Nat, k ≤ g.runners.length ∧ i = .int .i64 k ∧ Hid (wr.ownsRow (World.ext _ X2).heap.size 28 2 out ((g.runners.take k).map (warmAt g)).length (spanCs ((g.runners.take k).map (warmAt g)))) ∧ (World.ext _ X2).Exts wr) (fun _ i _ => g.runners.length - (intOf i).toNat)
    case atStart => exact ⟨0, Nat.zero_le _, rfl, Lib.hid (World.ownsRow_nil _ _ _ _), exq⟩
    case round =>
      obtain ⟨k, hk, rfl, HO, hE⟩ := hrel
      obtain ⟨X, rfl⟩ := hE
      by_cases hlt : k < g.runners.length
      · obtain ⟨rfl, hl⟩ := HP2.out (by omega)
        obtain ⟨r, hr⟩ := some_of_lt hlt
        have hcs := HC2.out k r hr
        have c0 := hcs 0 _ rfl
        simp only [Nat.mul_one, Nat.add_zero] at c0
        have hrb := HB4.out r (List.mem_of_getElem? hr)
        have hnx : (g.runners.take (k + 1)).map (warmAt g) = (g.runners.take k).map (warmAt g) ++ [⟨r - g.base - 2 * g.jitter, r - g.base + 2 * g.jitter⟩] := by rw [take_snoc hr, List.map_append]; rfl
        have hlen : ((g.runners.take k).map (warmAt g)).length ≤ 1000 := by rw [List.length_map, List.length_take]; omega
        generalize (g.runners.take k).map (warmAt g) = L at hnx hlen HO
        have HNX := Lib.hid hnx
        clear hnx
        clear hr hcs HP2
        go_wp2_with (at_builtin; refine wpList_append1W (.tmp 17) (.tmp 35) elem_Span rfl rfl rfl (ownsRow_exts HO.out exq) [.int .i64 (r - g.base - 2 * g.jitter), .int .i64 (r - g.base + 2 * g.jitter)] _ (by simp) rfl rfl ?h1 ?h2 ?h4 ?h3 ?_)
        case h1 => exact one_Span ⟨r - g.base - 2 * g.jitter, r - g.base + 2 * g.jitter⟩
        case h2 => omega
        case h4 => decide
        case h3 => exact World.Exts.size exq
        intro v' w' hown' happ
        have hE := happ.exts (World.ext _ X2) exq (Nat.le_refl _)
        have HO3 := Lib.hid hown'
        clear hown'
        have HE := Lib.hid hE
        clear hE
        clear happ
        go_wp2_with fail
        go_roundw
        case rel => exact ⟨k + 1, by omega, by go_num, Lib.hid (by rw [HNX.out, spanCs_snoc, List.length_append]; exact HO3.out), HE.out⟩
        case measure => simp [intOf]; omega
      · have hkn : k = g.runners.length := by omega
        have hO := HO.out
        rw [hkn, List.take_length] at hO
        have hrw := row_spans hO
        obtain ⟨q, cp, rfl⟩ := hrw.len
        have HRW := Lib.hid hrw
        clear hrw
        clear hkn HO hO
        go_wp2_with fail
        go_ret2
        exact ⟨_, rfl, HRW.out.mono exq, exq⟩

/-- The greatest, the least of numbers. -/
def maxL : List Int → Int | [] => 0 | x :: l => l.foldl max x
def minL : List Int → Int | [] => 0 | x :: l => l.foldl min x
theorem maxL_snoc {l : List Int} (h : 0 < l.length) (x : Int) : maxL (l ++ [x]) = max (maxL l) x := by
  cases l with
  | nil => simp at h
  | cons y l => simp [maxL]
theorem minL_snoc {l : List Int} (h : 0 < l.length) (x : Int) : minL (l ++ [x]) = min (minL l) x := by
  cases l with
  | nil => simp at h
  | cons y l => simp [minL]
theorem hard_fold {spread : Int} {l : List Int} (h : 0 < l.length) (o : Span) : l.foldl (hardStep spread) o = ⟨max o.lo (maxL l - spread), min o.hi (minL l + spread)⟩ := by
  have key : ∀ (l : List Int) (o : Span) (a b : Int), l.foldl (hardStep spread) ⟨max o.lo (a - spread), min o.hi (b + spread)⟩ = ⟨max o.lo (l.foldl max a - spread), min o.hi (l.foldl min b + spread)⟩ := by
    intro l
    induction l with
    | nil => intro o a b; rfl
    | cons x l ih =>
      intro o a b
      rw [List.foldl_cons, List.foldl_cons, List.foldl_cons, ← ih o (max a x) (min b x)]
      congr 1
      simp only [hardStep, Span.mk.injEq]
      omega
  cases l with
  | nil => simp at h
  | cons x l => rw [List.foldl_cons]; exact key l o x x
theorem maxL_in {l : List Int} (h : 0 < l.length) : maxL l ∈ l := by
  have key : ∀ (l : List Int) (a : Int), l.foldl max a = a ∨ l.foldl max a ∈ l := by
    intro l
    induction l with
    | nil => intro a; exact .inl rfl
    | cons x l ih =>
      intro a
      rw [List.foldl_cons]
      rcases ih (max a x) with h | h
      · rw [h]
        by_cases hc : a ≤ x
        · rw [Int.max_eq_right hc]; exact .inr (List.mem_cons_self ..)
        · rw [Int.max_eq_left (by omega)]; exact .inl rfl
      · exact .inr (List.mem_cons_of_mem _ h)
  cases l with
  | nil => simp at h
  | cons x l =>
    rcases key l x with h | h
    · show l.foldl max x ∈ _; rw [h]; exact List.mem_cons_self ..
    · exact List.mem_cons_of_mem _ h
theorem minL_in {l : List Int} (h : 0 < l.length) : minL l ∈ l := by
  have key : ∀ (l : List Int) (a : Int), l.foldl min a = a ∨ l.foldl min a ∈ l := by
    intro l
    induction l with
    | nil => intro a; exact .inl rfl
    | cons x l ih =>
      intro a
      rw [List.foldl_cons]
      rcases ih (min a x) with h | h
      · rw [h]
        by_cases hc : x ≤ a
        · rw [Int.min_eq_right hc]; exact .inr (List.mem_cons_self ..)
        · rw [Int.min_eq_left (by omega)]; exact .inl rfl
      · exact .inr (List.mem_cons_of_mem _ h)
  cases l with
  | nil => simp at h
  | cons x l =>
    rcases key l x with h | h
    · show l.foldl min x ∈ _; rw [h]; exact List.mem_cons_self ..
    · exact List.mem_cons_of_mem _ h

set_option maxHeartbeats 1000000 in
theorem Max_int_any (l : List Int) (v : Value) (w : World) (hrow : IsRow (fun x : Int => [.int .i64 x]) 1 w v l) (h0 : 0 < l.length) : Calls Tryz.prog 96 #[v] w fun e w' => e = .returned (.int .i64 (maxL l)) ∧ w.Exts w' := by
  obtain ⟨p, b, o, cap, rfl, hm, hp, hc⟩ := hrow.ex
  obtain ⟨rfl, hlay⟩ := hp h0
  obtain ⟨x, hx⟩ := some_of_lt h0
  have c00 := hc 0 x hx 0 _ rfl
  simp only [Nat.zero_mul, Nat.add_zero] at c00
  have ht1 : maxL (l.take 1) = x := by rw [take_snoc hx]; rfl
  have HT1 := Lib.hid ht1
  clear ht1
  have HC := Lib.hid hc
  clear hc
  clear hrow hp hx
  go_enter Tryz.func96, Tryz.ntmps96
  go_wp2_with fail
  go_loopw [3, 4] (fun m i wr => ∃ k : Nat, 1 ≤ k ∧ k ≤ l.length ∧ i = .int .i64 k ∧ m = .int .i64 (maxL (l.take k)) ∧ w.Exts wr) (fun _ i _ => l.length - (intOf i).toNat)
  case atStart => exact ⟨1, by omega, by omega, rfl, by rw [HT1.out], exq⟩
  case round =>
    obtain ⟨k, hk1, hk, rfl, rfl, hE⟩ := hrel
    obtain ⟨X, rfl⟩ := hE
    by_cases hlt : k < l.length
    · obtain ⟨y, hy⟩ := some_of_lt hlt
      have hcs := HC.out k y hy
      have c0 := hcs 0 _ rfl
      simp only [Nat.mul_one, Nat.add_zero] at c0
      have hnx := maxL_snoc (l := l.take k) (by rw [List.length_take]; omega) y
      rw [← take_snoc hy] at hnx
      generalize maxL (l.take k) = m at hnx
      have HNX := Lib.hid hnx
      clear hnx
      clear hy hcs
      rcases Int.lt_trichotomy m y with hc1 | hc1 | hc1
      all_goals
        go_wp2_with fail
        go_roundw
        case rel => exact ⟨k + 1, by omega, by omega, by go_num, by rw [HNX.out]; try exact congrArg (Value.int .i64) (by omega), exq⟩
        case measure => (simp [intOf]; try omega)
    · have hkn : k = l.length := by omega
      have hfin : maxL (l.take k) = maxL l := by rw [hkn, List.take_length]
      rw [hfin]
      clear hkn hfin
      go_wp2_with fail
      go_ret
      exact ⟨rfl, exq⟩
set_option maxHeartbeats 1000000 in
theorem Min_int_any (l : List Int) (v : Value) (w : World) (hrow : IsRow (fun x : Int => [.int .i64 x]) 1 w v l) (h0 : 0 < l.length) : Calls Tryz.prog 97 #[v] w fun e w' => e = .returned (.int .i64 (minL l)) ∧ w.Exts w' := by
  obtain ⟨p, b, o, cap, rfl, hm, hp, hc⟩ := hrow.ex
  obtain ⟨rfl, hlay⟩ := hp h0
  obtain ⟨x, hx⟩ := some_of_lt h0
  have c00 := hc 0 x hx 0 _ rfl
  simp only [Nat.zero_mul, Nat.add_zero] at c00
  have ht1 : minL (l.take 1) = x := by rw [take_snoc hx]; rfl
  have HT1 := Lib.hid ht1
  clear ht1
  have HC := Lib.hid hc
  clear hc
  clear hrow hp hx
  go_enter Tryz.func97, Tryz.ntmps97
  go_wp2_with fail
  go_loopw [3, 4] (fun m i wr => ∃ k : Nat, 1 ≤ k ∧ k ≤ l.length ∧ i = .int .i64 k ∧ m = .int .i64 (minL (l.take k)) ∧ w.Exts wr) (fun _ i _ => l.length - (intOf i).toNat)
  case atStart => exact ⟨1, by omega, by omega, rfl, by rw [HT1.out], exq⟩
  case round =>
    obtain ⟨k, hk1, hk, rfl, rfl, hE⟩ := hrel
    obtain ⟨X, rfl⟩ := hE
    by_cases hlt : k < l.length
    · obtain ⟨y, hy⟩ := some_of_lt hlt
      have hcs := HC.out k y hy
      have c0 := hcs 0 _ rfl
      simp only [Nat.mul_one, Nat.add_zero] at c0
      have hnx := minL_snoc (l := l.take k) (by rw [List.length_take]; omega) y
      rw [← take_snoc hy] at hnx
      generalize minL (l.take k) = m at hnx
      have HNX := Lib.hid hnx
      clear hnx
      clear hy hcs
      rcases Int.lt_trichotomy m y with hc1 | hc1 | hc1
      all_goals
        go_wp2_with fail
        go_roundw
        case rel => exact ⟨k + 1, by omega, by omega, by go_num, by rw [HNX.out]; try exact congrArg (Value.int .i64) (by omega), exq⟩
        case measure => (simp [intOf]; try omega)
    · have hkn : k = l.length := by omega
      have hfin : minL (l.take k) = minL l := by rw [hkn, List.take_length]
      rw [hfin]
      clear hkn hfin
      go_wp2_with fail
      go_ret
      exact ⟨rfl, exq⟩
end Go.Proofs.YtcickafaomfbmaaGreatDoor
