/-
  Walks of the reference of layer 4: spans in order; the fewest spans; sums.
-/
import Derived.Test.YtomcenfikdmmkaaGreatDoorSortB
import Derived.Test.YtomcenfikdmmkaaGreatDoorBt
import Derived.Test.YtomcenfikdmmkaaGreatDoorBt
import Derived.Deep.RegionLaw
set_option linter.unusedSimpArgs false
namespace Go.Proofs.YtomcenfikdmmkaaGreatDoor
open Go.RowKit Kr

theorem IsRow_take {α : Type} {enc : α → List Value} {k : Nat} {w : World} {p : Option Addr} {cap : Nat} {xs : List α} {n : Nat} (h : IsRow enc k w (.slice p n cap) xs) (m : Nat) (hm : m ≤ xs.length) : IsRow enc k w (.slice p m cap) (xs.take m) := by
  obtain ⟨q, b, o, cap', e, hl, hq, hc⟩ := h.ex
  cases e
  have hlen : (xs.take m).length = m := by rw [List.length_take]; omega
  refine ⟨p, b, o, cap, by rw [hlen], by rw [hlen]; omega, fun h0 => hq (by rw [hlen] at h0; omega), fun i x hx j u hu => hc i x ?_ j u hu⟩
  rw [List.getElem?_take] at hx
  split at hx
  · exact hx
  · cases hx
theorem IsRow_drop {α : Type} {enc : α → List Value} {k : Nat} {w : World} {b o n cap : Nat} {xs : List α} (h : IsRow enc k w (.slice (some ⟨b, o, none⟩) n cap) xs) (m : Nat) (hm : m < xs.length) : IsRow enc k w (.slice (some ⟨b, o + m * k, none⟩) (n - m) (cap - m)) (xs.drop m) := by
  obtain ⟨q, b', o', cap', e, hl, hq, hc⟩ := h.ex
  cases e
  obtain ⟨e, hlay⟩ := hq (by omega)
  cases e
  refine ⟨_, b, o + m * k, cap - m, by rw [List.length_drop], by rw [List.length_drop]; omega, fun h0 => ⟨rfl, hlay⟩, fun i x hx j u hu => ?_⟩
  rw [List.getElem?_drop] at hx
  have := hc (m + i) x hx j u hu
  rw [Nat.add_mul] at this
  rw [show o + m * k + i * k + j = o + (m * k + i * k) + j by omega]
  exact this

/-- What is known of the two halves' sorted rows. -/
def SortedAt (l : List Span) (c : Nat) (W : World) (v : Value) : Prop := ∃ l', IsRow (fun t : Kr.Span => [.int .i64 t.lo, .int .i64 t.hi]) 2 W v l' ∧ l'.Perm (if c = 5 then l.take (l.length / 2) else l.drop (l.length / 2)) ∧ ByLo l'
theorem SortedAt.mono {l : List Span} {c : Nat} {W W' : World} {v : Value} (h : SortedAt l c W v) (hE : W.Exts W') : SortedAt l c W' v := by
  obtain ⟨l', h1, h2⟩ := h; exact ⟨l', h1.mono hE, h2⟩

theorem IsRow_tail {α : Type} {enc : α → List Value} {k : Nat} {w : World} {b o cap : Nat} {x : α} {xs : List α} (h : IsRow enc k w (.slice (some ⟨b, o, none⟩) (xs.length + 1) cap) (x :: xs)) :
    IsRow enc k w (.slice (if cap = 1 then some ⟨b, o, none⟩ else some ⟨b, o + k, none⟩) xs.length (cap - 1)) xs := by
  obtain ⟨q, b', o', cap', e, hl, hq, hc⟩ := h.ex
  cases e
  obtain ⟨e, hlay⟩ := hq (by simp)
  cases e
  simp only [List.length_cons] at hl
  refine ⟨_, b, o + k, cap - 1, rfl, by omega, fun h0 => ⟨by rw [if_neg (by omega)], hlay⟩, fun i y hy j u hu => ?_⟩
  have := hc (i + 1) y (by simpa using hy) j u hu
  rw [Nat.succ_mul] at this
  rw [show o + k + i * k + j = o + (i * k + k) + j by omega]
  exact this
/-- The books of a merge: what has been laid, what is left of the two rows. -/
structure MergeAt (l ra rb o : List Span) : Prop where
  perm : (o ++ (ra ++ rb)).Perm l
  fst : ByLo (o ++ ra)
  snd : ByLo (o ++ rb)
def SortRel (l : List Span) (W : World) (a b out : Value) (wr : World) : Prop := ∃ ra rb o : List Span, IsRow (fun t : Kr.Span => [.int .i64 t.lo, .int .i64 t.hi]) 2 W a ra ∧ IsRow (fun t : Kr.Span => [.int .i64 t.lo, .int .i64 t.hi]) 2 W b rb ∧ wr.ownsRow W.heap.size 30 2 out o.length (spanCs o) ∧ MergeAt l ra rb o ∧ W.Exts wr
def lenV : Value → Nat | .slice _ n _ => n | _ => 0

theorem merge_a {l : List Span} {x : Span} {ra rb o : List Span} (h : MergeAt l (x :: ra) rb o) (hx : ∀ y ∈ rb, x.lo ≤ y.lo) : MergeAt l ra rb (o ++ [x]) := by
  obtain ⟨h1, h2, h3⟩ := h
  refine ⟨by simpa using h1, by simpa using h2, ?_⟩
  obtain ⟨p1, p2, p3⟩ := List.pairwise_append.1 h2
  obtain ⟨q1, q2, q3⟩ := List.pairwise_append.1 h3
  refine List.pairwise_append.2 ⟨List.pairwise_append.2 ⟨p1, List.pairwise_singleton _ _, fun a ha b hb => ?_⟩, q2, fun a ha b hb => ?_⟩
  · rw [List.mem_singleton.1 hb]; exact p3 a ha x (List.mem_cons_self ..)
  · rcases List.mem_append.1 ha with ha | ha
    · exact q3 a ha b hb
    · rw [List.mem_singleton.1 ha]; exact hx b hb
theorem merge_b {l : List Span} {y : Span} {ra rb o : List Span} (h : MergeAt l ra (y :: rb) o) (hy : ∀ x ∈ ra, y.lo ≤ x.lo) : MergeAt l ra rb (o ++ [y]) := by
  obtain ⟨h1, h2, h3⟩ := h
  refine ⟨?_, ?_, by simpa using h3⟩
  · refine List.Perm.trans ?_ h1
    rw [List.append_assoc]
    exact List.Perm.append_left _ (List.perm_middle (l₁ := ra) (a := y) (l₂ := rb)).symm
  obtain ⟨p1, p2, p3⟩ := List.pairwise_append.1 h2
  obtain ⟨q1, q2, q3⟩ := List.pairwise_append.1 h3
  refine List.pairwise_append.2 ⟨List.pairwise_append.2 ⟨p1, List.pairwise_singleton _ _, fun a ha b hb => ?_⟩, p2, fun a ha b hb => ?_⟩
  · rw [List.mem_singleton.1 hb]; exact q3 a ha y (List.mem_cons_self ..)
  · rcases List.mem_append.1 ha with ha | ha
    · exact p3 a ha b hb
    · rw [List.mem_singleton.1 ha]; exact hy b hb
theorem head_le {x : Span} {l : List Span} {o : List Span} (h : ByLo (o ++ x :: l)) : ∀ y ∈ x :: l, x.lo ≤ y.lo := by
  intro y hy
  have h2 := (List.pairwise_append.1 h).2.1
  rcases List.mem_cons.1 hy with rfl | hy
  · exact Int.le_refl _
  · exact (List.pairwise_cons.1 h2).1 y hy

set_option maxHeartbeats 400000 in
theorem r04_sorted_short (l : List Span) (v : Value) (w : World) (hrow : IsRow (fun t : Kr.Span => [.int .i64 t.lo, .int .i64 t.hi]) 2 w v l) (h2 : l.length < 2) : Calls Tryz.prog 110 #[v] w fun e w' => ∃ v' l', e = .returned v' ∧ IsRow (fun t : Kr.Span => [.int .i64 t.lo, .int .i64 t.hi]) 2 w' v' l' ∧ l'.Perm l ∧ ByLo l' ∧ w.Exts w' := by
  have hb : ByLo l := by
    match l, h2 with
    | [], _ => exact List.Pairwise.nil
    | [x], _ => exact List.pairwise_singleton _ _
  obtain ⟨q, cap, rfl⟩ := hrow.len
  have HR := Lib.hid hrow
  clear hrow
  go_enter Tryz.func110, Tryz.ntmps110
  go_wp2_with fail
  go_ret
  exact ⟨_, l, rfl, HR.out, List.Perm.refl _, hb, (by repeat' (first | with_reducible exact World.Exts.refl _ | with_reducible refine World.Exts.alloc ?_ _ | with_reducible refine World.Exts.drew ?_ | with_reducible refine World.Exts.drewN ?_ _ | with_reducible refine World.Exts.ext ?_ _ | with_reducible refine World.Exts.setCell ?_ ?_ _ | (simp; done) | exact World.size_ext_le _ _ | (simp; omega)))⟩

set_option maxRecDepth 4000 in
set_option maxHeartbeats 4000000 in
theorem r04_sorted_any : ∀ (N : Nat) (l : List Span), l.length ≤ N → l.length ≤ 1000000000000 → ∀ (v : Value) (w : World), IsRow (fun t : Kr.Span => [.int .i64 t.lo, .int .i64 t.hi]) 2 w v l →
    Calls Tryz.prog 110 #[v] w fun e w' => ∃ v' l', e = .returned v' ∧ IsRow (fun t : Kr.Span => [.int .i64 t.lo, .int .i64 t.hi]) 2 w' v' l' ∧ l'.Perm l ∧ ByLo l' ∧ w.Exts w' := by
  intro N
  induction N with
  | zero =>
    intro l hN hmax v w hrow
    exact r04_sorted_short l v w hrow (by omega)
  | succ N ih =>
    intro l hN hmax v w hrow
    rcases Nat.lt_or_ge l.length 2 with h2 | h2
    · exact r04_sorted_short l v w hrow h2
    · obtain ⟨q, b, o, cap, rfl, hm, hq, hc⟩ := hrow.ex
      obtain ⟨rfl, hlay⟩ := hq (by omega)
      have hk1 : l.length / 2 ≤ l.length := by omega
      have ha := IsRow_take hrow (l.length / 2) hk1
      have hb := IsRow_drop hrow (l.length / 2) (by omega)
      have iha := fun W (hW : w.Exts W) => ih (l.take (l.length / 2)) (by rw [List.length_take]; omega) (by rw [List.length_take]; omega) (.slice (some ⟨b, o, none⟩) (l.length / 2) cap) W (ha.mono hW)
      have ihb := fun W (hW : w.Exts W) => ih (l.drop (l.length / 2)) (by rw [List.length_drop]; omega) (by rw [List.length_drop]; omega) (.slice (some ⟨b, o + l.length / 2 * 2, none⟩) (l.length - l.length / 2) (cap - l.length / 2)) W (hb.mono hW)
      have HA := Lib.hid ha
      clear ha
      have HB := Lib.hid hb
      clear hb
      have IHA := Lib.hid iha
      clear iha
      have IHB := Lib.hid ihb
      clear ihb
      clear hc hq hrow ih
      go_enter Tryz.func110, Tryz.ntmps110
      go_wp2_with fail
      have hΦm : ∀ (c : Nat) (v : Value) (W W' : World), SortedAt l c W v → W.Exts W' → SortedAt l c W' v := fun c v W W' h hE => h.mono hE
      refine wp_region_calls 12 (fun i => i == 5 || i == 11) (fun c v W => SortedAt l c W v) (by kernel_rfl) (fun ν => by kernel_rfl) (by kernel_rfl) (by kernel_rfl) (by kernel_rfl) (by kernel_rfl) ?mono ?_
      rotate_left 1
      apply Exists.intro
      refine ⟨fun ν L hL => ?_, fun c oc hc hU ν W hE hΦ => ?_, fun ν W hE hΦ => ?_⟩
      · simp only [modU, cOp, List.mapIdx_cons, List.mapIdx_nil, Nat.zero_add, Nat.reduceAdd, Nat.reduceBEq, Bool.or_false, Bool.false_or, Bool.or_true, Bool.true_or, Bool.or_self, Bool.false_eq_true, if_false, if_true, List.take_succ_cons, List.take_zero]
        repeat (go_big_quiet_step (fail))
        exact wpQuiet_nil hL
      · simp at hU
        rcases hU with rfl | rfl
        · simp only [List.getElem?_cons_succ, List.getElem?_cons_zero, Option.some.injEq] at hc
          subst hc
          refine Oper.gives_fn rfl rfl rfl (enters_of Tryz.func110 (by kernel_rfl) rfl) ?_ rfl
          refine (IHA.out _ hE).mono ?_
          rintro e W' ⟨v', l', rfl, h1, h2, h3, h4⟩
          exact ⟨v', rfl, h4, l', h1, h2, h3⟩
        · simp only [List.getElem?_cons_succ, List.getElem?_cons_zero, Option.some.injEq] at hc
          subst hc
          refine Oper.gives_fn rfl rfl rfl (enters_of Tryz.func110 (by kernel_rfl) rfl) ?_ rfl
          refine (IHB.out _ hE).mono ?_
          rintro e W' ⟨v', l', rfl, h1, h2, h3, h4⟩
          exact ⟨v', rfl, h4, l', h1, h2, h3⟩
      · obtain ⟨la, hra, hpa, hsa⟩ := hΦ 5 (by decide) rfl
        obtain ⟨lb, hrb, hpb, hsb⟩ := hΦ 11 (by decide) rfl
        rw [if_pos rfl] at hpa
        rw [if_neg (by decide)] at hpb
        have hperm0 : (la ++ lb).Perm l := (hpa.append hpb).trans (by rw [List.take_append_drop])
        clear hΦ hpa hpb hΦm
        simp only [List.drop_succ_cons, List.drop_zero]
        generalize ν 5 = va at hra ⊢
        generalize ν 11 = vb at hrb ⊢
        obtain ⟨qa, ca, rfl⟩ := hra.len
        obtain ⟨qb, cb, rfl⟩ := hrb.len
        obtain ⟨XS, rfl⟩ := hE
        have HRA := Lib.hid hra
        clear hra
        have HRB := Lib.hid hrb
        clear hrb
        have HSA := Lib.hid hsa
        clear hsa
        have HSB := Lib.hid hsb
        clear hsb
        have HP0 := Lib.hid hperm0
        clear hperm0
        go_wp2_with fail
        go_loopw [3, 4, 5] (fun a b out wr => SortRel l (w.ext XS) a b out wr) (fun a b _ _ => lenV a + lenV b)
        case atStart => exact ⟨la, lb, [], HRA.out, HRB.out, World.ownsRow_nil _ _ _ _, ⟨by simpa using HP0.out, by simpa using HSA.out, by simpa using HSB.out⟩, (by repeat' (first | with_reducible exact World.Exts.refl _ | with_reducible refine World.Exts.alloc ?_ _ | with_reducible refine World.Exts.drew ?_ | with_reducible refine World.Exts.drewN ?_ _ | with_reducible refine World.Exts.ext ?_ _ | with_reducible refine World.Exts.setCell ?_ ?_ _ | (simp; done) | exact World.size_ext_le _ _ | (simp; omega)))⟩
        case round =>
          obtain ⟨ra, rb, o, hra, hrb, ho, hmg, hE⟩ := hrel
          have HRA := Lib.hid hra
          clear hra
          have HRB := Lib.hid hrb
          clear hrb
          have HO := Lib.hid ho
          clear ho
          have HM := Lib.hid hmg
          clear hmg
          obtain ⟨X2, rfl⟩ := hE
          obtain ⟨pa, ba, oa, ca, rfl, hma, hpa, hca⟩ := HRA.out.ex
          obtain ⟨pb, bb, ob, cb, rfl, hmb, hpb, hcb⟩ := HRB.out.ex
          have hol : o.length + (ra.length + rb.length) = l.length := by have h := HM.out.perm.length_eq; simpa using h
          cases ra with
          | nil =>
            cases rb with
            | nil =>
              have hfin : o.Perm l := by simpa using HM.out.perm
              have hsrt : ByLo o := by simpa using HM.out.fst
              have hrw := row_spans HO.out
              have HRW := Lib.hid hrw
              clear hrw
              clear hpa hca hpb hcb
              simp only [List.length_nil]
              go_wp2_with fail
              go_ret
              exact ⟨_, o, rfl, HRW.out.mono (by repeat' (first | with_reducible exact World.Exts.refl _ | with_reducible refine World.Exts.alloc ?_ _ | with_reducible refine World.Exts.drew ?_ | with_reducible refine World.Exts.drewN ?_ _ | with_reducible refine World.Exts.ext ?_ _ | with_reducible refine World.Exts.setCell ?_ ?_ _ | (simp; done) | exact World.size_ext_le _ _ | (simp; omega))), hfin, hsrt, (by repeat' (first | with_reducible exact World.Exts.refl _ | with_reducible refine World.Exts.alloc ?_ _ | with_reducible refine World.Exts.drew ?_ | with_reducible refine World.Exts.drewN ?_ _ | with_reducible refine World.Exts.ext ?_ _ | with_reducible refine World.Exts.setCell ?_ ?_ _ | (simp; done) | exact World.size_ext_le _ _ | (simp; omega)))⟩
            | cons y rb =>
              obtain ⟨rfl, hlayA⟩ := hpb (by simp)
              have a0 := hcb 0 y rfl 0 _ rfl
              have a1 := hcb 0 y rfl 1 _ rfl
              simp only [Nat.zero_mul, Nat.add_zero, List.length_cons] at a0 a1 hmb
              simp only [List.length_cons]
              haveI := Lays.of_cell a0
              have htA := IsRow_tail HRB.out
              have HTB := Lib.hid htA
              clear htA
              clear hpb hcb
              have hslA : (1 : Int) ≤ (rb.length : Int) + 1 := by omega
              have hzA : (((rb.length : Int) + 1) == 0) = false := by rw [beq_eq_false_iff_ne]; omega
              clear hpa hca
              have hmg2 := merge_b HM.out (fun x hx => by cases hx)
              have HMG := Lib.hid hmg2
              clear hmg2
              simp only [List.length_nil]
              go_wp2_with fail
              refine wp_region_ext (by kernel_rfl) (by kernel_rfl) ?_
              repeat (go_big_quiet_step (fail))
              refine wpQuiet_nil ?_
              rintro _ ⟨X, rfl⟩
              go_wp2_with fail
              go_region_law (refine step_append1 (.tmp 57) (.tmp 61) elem_Span rfl rfl (World.ext _ X2) (by repeat' (first | with_reducible exact World.Exts.refl _ | with_reducible refine World.Exts.alloc ?_ _ | with_reducible refine World.Exts.drew ?_ | with_reducible refine World.Exts.drewN ?_ _ | with_reducible refine World.Exts.ext ?_ _ | with_reducible refine World.Exts.setCell ?_ ?_ _ | (simp; done) | exact World.size_ext_le _ _ | (simp; omega))) rfl HO.out [.int .i64 y.lo, .int .i64 y.hi] _ rfl (by intro j u hj; rcases j with _ | _ | j <;> simp at hj; all_goals (subst hj; simp [go_sem])) rfl (one_Span y) (by omega) (by decide) (World.Exts.size (by repeat' (first | with_reducible exact World.Exts.refl _ | with_reducible refine World.Exts.alloc ?_ _ | with_reducible refine World.Exts.drew ?_ | with_reducible refine World.Exts.drewN ?_ _ | with_reducible refine World.Exts.ext ?_ _ | with_reducible refine World.Exts.setCell ?_ ?_ _ | (simp; done) | exact World.size_ext_le _ _ | (simp; omega)))) ?_; intro v' w' hown' happ; have HO3 := Lib.hid hown'; have HE3 := Lib.hid (happ (w.ext XS) (by repeat' (first | with_reducible exact World.Exts.refl _ | with_reducible refine World.Exts.alloc ?_ _ | with_reducible refine World.Exts.drew ?_ | with_reducible refine World.Exts.drewN ?_ _ | with_reducible refine World.Exts.ext ?_ _ | with_reducible refine World.Exts.setCell ?_ ?_ _ | (simp; done) | exact World.size_ext_le _ _ | (simp; omega))) (Nat.le_refl _)); clear hown' happ)
              all_goals
                go_wp2_with fail
                all_goals exact ⟨⟨_, _, _, ⟨[], rb, o ++ [y], HRA.out, (by have t := HTB.out; first | exact t | (rw [if_pos (by assumption), show cb - 1 = 0 by omega] at t; exact t) | (rw [if_neg (by assumption)] at t; exact t)), by rw [spanCs_snoc, List.length_append]; exact HO3.out, HMG.out, HE3.out⟩, rfl, rfl, rfl⟩, by simp [lenV]⟩
          | cons x ra =>
            obtain ⟨rfl, hlayA⟩ := hpa (by simp)
            have a0 := hca 0 x rfl 0 _ rfl
            have a1 := hca 0 x rfl 1 _ rfl
            simp only [Nat.zero_mul, Nat.add_zero, List.length_cons] at a0 a1 hma
            simp only [List.length_cons]
            haveI := Lays.of_cell a0
            have htA := IsRow_tail HRA.out
            have HTA := Lib.hid htA
            clear htA
            clear hpa hca
            have hslA : (1 : Int) ≤ (ra.length : Int) + 1 := by omega
            have hzA : (((ra.length : Int) + 1) == 0) = false := by rw [beq_eq_false_iff_ne]; omega
            cases rb with
            | nil =>
              clear hpb hcb
              have hmg2 := merge_a HM.out (fun x hx => by cases hx)
              have HMG := Lib.hid hmg2
              clear hmg2
              simp only [List.length_nil]
              go_wp2_with fail
              refine wp_region_ext (by kernel_rfl) (by kernel_rfl) ?_
              repeat (go_big_quiet_step (fail))
              refine wpQuiet_nil ?_
              rintro _ ⟨X, rfl⟩
              go_wp2_with fail
              go_region_law (refine step_append1 (.tmp 49) (.tmp 53) elem_Span rfl rfl (World.ext _ X2) (by repeat' (first | with_reducible exact World.Exts.refl _ | with_reducible refine World.Exts.alloc ?_ _ | with_reducible refine World.Exts.drew ?_ | with_reducible refine World.Exts.drewN ?_ _ | with_reducible refine World.Exts.ext ?_ _ | with_reducible refine World.Exts.setCell ?_ ?_ _ | (simp; done) | exact World.size_ext_le _ _ | (simp; omega))) rfl HO.out [.int .i64 x.lo, .int .i64 x.hi] _ rfl (by intro j u hj; rcases j with _ | _ | j <;> simp at hj; all_goals (subst hj; simp [go_sem])) rfl (one_Span x) (by omega) (by decide) (World.Exts.size (by repeat' (first | with_reducible exact World.Exts.refl _ | with_reducible refine World.Exts.alloc ?_ _ | with_reducible refine World.Exts.drew ?_ | with_reducible refine World.Exts.drewN ?_ _ | with_reducible refine World.Exts.ext ?_ _ | with_reducible refine World.Exts.setCell ?_ ?_ _ | (simp; done) | exact World.size_ext_le _ _ | (simp; omega)))) ?_; intro v' w' hown' happ; have HO3 := Lib.hid hown'; have HE3 := Lib.hid (happ (w.ext XS) (by repeat' (first | with_reducible exact World.Exts.refl _ | with_reducible refine World.Exts.alloc ?_ _ | with_reducible refine World.Exts.drew ?_ | with_reducible refine World.Exts.drewN ?_ _ | with_reducible refine World.Exts.ext ?_ _ | with_reducible refine World.Exts.setCell ?_ ?_ _ | (simp; done) | exact World.size_ext_le _ _ | (simp; omega))) (Nat.le_refl _)); clear hown' happ)
              all_goals
                go_wp2_with fail
                all_goals exact ⟨⟨_, _, _, ⟨ra, [], o ++ [x], (by have t := HTA.out; first | exact t | (rw [if_pos (by assumption), show ca - 1 = 0 by omega] at t; exact t) | (rw [if_neg (by assumption)] at t; exact t)), HRB.out, by rw [spanCs_snoc, List.length_append]; exact HO3.out, HMG.out, HE3.out⟩, rfl, rfl, rfl⟩, by simp [lenV]⟩
            | cons y rb =>
              obtain ⟨rfl, hlayB⟩ := hpb (by simp)
              have d0 := hcb 0 y rfl 0 _ rfl
              have d1 := hcb 0 y rfl 1 _ rfl
              simp only [Nat.zero_mul, Nat.add_zero, List.length_cons] at d0 d1 hmb
              simp only [List.length_cons]
              haveI := Lays.of_cell d0
              have htB := IsRow_tail HRB.out
              have HTB := Lib.hid htB
              clear htB
              clear hpb hcb
              have hslB : (1 : Int) ≤ (rb.length : Int) + 1 := by omega
              have hzB : (((rb.length : Int) + 1) == 0) = false := by rw [beq_eq_false_iff_ne]; omega
              rcases Int.lt_or_le y.lo x.lo with hc | hc
              · have hmg2 := merge_b HM.out (fun z hz => by have := head_le HM.out.fst z hz; omega)
                have HMG := Lib.hid hmg2
                clear hmg2
                go_wp2_with fail
                refine wp_region_ext (by kernel_rfl) (by kernel_rfl) ?_
                repeat (go_big_quiet_step (fail))
                refine wpQuiet_nil ?_
                rintro _ ⟨X, rfl⟩
                go_wp2_with fail
                go_region_law (refine step_append1 (.tmp 57) (.tmp 61) elem_Span rfl rfl (World.ext _ X2) (by repeat' (first | with_reducible exact World.Exts.refl _ | with_reducible refine World.Exts.alloc ?_ _ | with_reducible refine World.Exts.drew ?_ | with_reducible refine World.Exts.drewN ?_ _ | with_reducible refine World.Exts.ext ?_ _ | with_reducible refine World.Exts.setCell ?_ ?_ _ | (simp; done) | exact World.size_ext_le _ _ | (simp; omega))) rfl HO.out [.int .i64 y.lo, .int .i64 y.hi] _ rfl (by intro j u hj; rcases j with _ | _ | j <;> simp at hj; all_goals (subst hj; simp [go_sem])) rfl (one_Span y) (by omega) (by decide) (World.Exts.size (by repeat' (first | with_reducible exact World.Exts.refl _ | with_reducible refine World.Exts.alloc ?_ _ | with_reducible refine World.Exts.drew ?_ | with_reducible refine World.Exts.drewN ?_ _ | with_reducible refine World.Exts.ext ?_ _ | with_reducible refine World.Exts.setCell ?_ ?_ _ | (simp; done) | exact World.size_ext_le _ _ | (simp; omega)))) ?_; intro v' w' hown' happ; have HO3 := Lib.hid hown'; have HE3 := Lib.hid (happ (w.ext XS) (by repeat' (first | with_reducible exact World.Exts.refl _ | with_reducible refine World.Exts.alloc ?_ _ | with_reducible refine World.Exts.drew ?_ | with_reducible refine World.Exts.drewN ?_ _ | with_reducible refine World.Exts.ext ?_ _ | with_reducible refine World.Exts.setCell ?_ ?_ _ | (simp; done) | exact World.size_ext_le _ _ | (simp; omega))) (Nat.le_refl _)); clear hown' happ)
                all_goals
                  go_wp2_with fail
                  all_goals exact ⟨⟨_, _, _, ⟨x :: ra, rb, o ++ [y], HRA.out, (by have t := HTB.out; first | exact t | (rw [if_pos (by assumption), show cb - 1 = 0 by omega] at t; exact t) | (rw [if_neg (by assumption)] at t; exact t)), by rw [spanCs_snoc, List.length_append]; exact HO3.out, HMG.out, HE3.out⟩, rfl, rfl, rfl⟩, by simp [lenV]⟩
              · have hmg2 := merge_a HM.out (fun z hz => by have := head_le HM.out.snd z hz; omega)
                have HMG := Lib.hid hmg2
                clear hmg2
                go_wp2_with fail
                refine wp_region_ext (by kernel_rfl) (by kernel_rfl) ?_
                repeat (go_big_quiet_step (fail))
                refine wpQuiet_nil ?_
                rintro _ ⟨X, rfl⟩
                go_wp2_with fail
                go_region_law (refine step_append1 (.tmp 49) (.tmp 53) elem_Span rfl rfl (World.ext _ X2) (by repeat' (first | with_reducible exact World.Exts.refl _ | with_reducible refine World.Exts.alloc ?_ _ | with_reducible refine World.Exts.drew ?_ | with_reducible refine World.Exts.drewN ?_ _ | with_reducible refine World.Exts.ext ?_ _ | with_reducible refine World.Exts.setCell ?_ ?_ _ | (simp; done) | exact World.size_ext_le _ _ | (simp; omega))) rfl HO.out [.int .i64 x.lo, .int .i64 x.hi] _ rfl (by intro j u hj; rcases j with _ | _ | j <;> simp at hj; all_goals (subst hj; simp [go_sem])) rfl (one_Span x) (by omega) (by decide) (World.Exts.size (by repeat' (first | with_reducible exact World.Exts.refl _ | with_reducible refine World.Exts.alloc ?_ _ | with_reducible refine World.Exts.drew ?_ | with_reducible refine World.Exts.drewN ?_ _ | with_reducible refine World.Exts.ext ?_ _ | with_reducible refine World.Exts.setCell ?_ ?_ _ | (simp; done) | exact World.size_ext_le _ _ | (simp; omega)))) ?_; intro v' w' hown' happ; have HO3 := Lib.hid hown'; have HE3 := Lib.hid (happ (w.ext XS) (by repeat' (first | with_reducible exact World.Exts.refl _ | with_reducible refine World.Exts.alloc ?_ _ | with_reducible refine World.Exts.drew ?_ | with_reducible refine World.Exts.drewN ?_ _ | with_reducible refine World.Exts.ext ?_ _ | with_reducible refine World.Exts.setCell ?_ ?_ _ | (simp; done) | exact World.size_ext_le _ _ | (simp; omega))) (Nat.le_refl _)); clear hown' happ)
                all_goals
                  go_wp2_with fail
                  all_goals exact ⟨⟨_, _, _, ⟨ra, y :: rb, o ++ [x], (by have t := HTA.out; first | exact t | (rw [if_pos (by assumption), show ca - 1 = 0 by omega] at t; exact t) | (rw [if_neg (by assumption)] at t; exact t)), HRB.out, by rw [spanCs_snoc, List.length_append]; exact HO3.out, HMG.out, HE3.out⟩, rfl, rfl, rfl⟩, by simp [lenV]⟩
      case mono => exact hΦm
end Go.Proofs.YtomcenfikdmmkaaGreatDoor
