/-
  Several texts in one: see the heads of its parts.
-/
import Derived.Test.YtilmniopollbiaaGreatDoorSoT
import Derived.Test.YtilmniopollbiaaGreatDoorBt
import Derived.Deep.RegionLaw
import Derived.Test.YtilmniopollbiaaGreatDoorTe

/-
  Walks of the reference of layer 4: spans in order; the fewest spans; sums.
-/
set_option linter.unusedSimpArgs false
namespace Go.Proofs.YtilmniopollbiaaGreatDoor
open Go.RowKit Kr

theorem IsRow_take {α : Type} {enc : α → List Value} {k : Nat} {w : World} {p : Option Addr} {cap : Nat} {xs : List α} {n : Nat} (h : IsRow enc k w (.slice p n cap) xs) (m : Nat) (hm : m ≤ xs.length) : IsRow enc k w (.slice p m cap) (xs.take m) := by
  obtain ⟨q, b, o, cap', e, hl, hq, hc⟩ := h.ex
  cases e
  have hlen : (xs.take m).length = m := by rw [List.length_take]; omega
  refine ⟨p, b, o, cap, by rw [hlen], by rw [hlen]; omega, fun h0 => hq (by rw [hlen] at h0; omega), fun i x hx j u hu => hc i x ?_ j u hu⟩
  rw [List.getElem?_take] at hx
  split at hx
  · exact hx
  · cases hx
theorem IsRow_drop {α : Type} {enc : α → List Value} {k : Nat} {w : World} {b o n cap : Nat} {xs : List α} (h : IsRow enc k w (.slice (some ⟨b, o, none⟩) n cap) xs) (m : Nat) (hm : m < xs.length) : IsRow enc k w (.slice (some ⟨b, o + m * k, none⟩) (n - m) (cap - m)) (xs.drop m) := by
  obtain ⟨q, b', o', cap', e, hl, hq, hc⟩ := h.ex
  cases e
  obtain ⟨e, hlay⟩ := hq (by omega)
  cases e
  refine ⟨_, b, o + m * k, cap - m, by rw [List.length_drop], by rw [List.length_drop]; omega, fun h0 => ⟨rfl, hlay⟩, fun i x hx j u hu => ?_⟩
  rw [List.getElem?_drop] at hx
  have := hc (m + i) x hx j u hu
  rw [Nat.add_mul] at this
  rw [show o + m * k + i * k + j = o + (m * k + i * k) + j by omega]
  exact this

/-- What is known of the two halves' sorted rows. -/
def SortedAt (l : List Span) (c : Nat) (W : World) (v : Value) : Prop := ∃ l', IsRow (fun t : Kr.Span => [.int .i64 t.lo, .int .i64 t.hi]) 2 W v l' ∧ l'.Perm (if c = 5 then l.take (l.length / 2) else l.drop (l.length / 2)) ∧ ByLo l'
theorem SortedAt.mono {l : List Span} {c : Nat} {W W' : World} {v : Value} (h : SortedAt l c W v) (hE : W.Exts W') : SortedAt l c W' v := by
  obtain ⟨l', h1, h2⟩ := h; exact ⟨l', h1.mono hE, h2⟩

theorem IsRow_tail {α : Type} {enc : α → List Value} {k : Nat} {w : World} {b o cap : Nat} {x : α} {xs : List α} (h : IsRow enc k w (.slice (some ⟨b, o, none⟩) (xs.length + 1) cap) (x :: xs)) :
    IsRow enc k w (.slice (if cap = 1 then some ⟨b, o, none⟩ else some ⟨b, o + k, none⟩) xs.length (cap - 1)) xs := by
  obtain ⟨q, b', o', cap', e, hl, hq, hc⟩ := h.ex
  cases e
  obtain ⟨e, hlay⟩ := hq (by simp)
  cases e
  simp only [List.length_cons] at hl
  refine ⟨_, b, o + k, cap - 1, rfl, by omega, fun h0 => ⟨by rw [if_neg (by omega)], hlay⟩, fun i y hy j u hu => ?_⟩
  have := hc (i + 1) y (by simpa using hy) j u hu
  rw [Nat.succ_mul] at this
  rw [show o + k + i * k + j = o + (i * k + k) + j by omega]
  exact this
/-- The books of a merge: what has been laid, what is left of the two rows. -/
structure MergeAt (l ra rb o : List Span) : Prop where
  perm : (o ++ (ra ++ rb)).Perm l
  fst : ByLo (o ++ ra)
  snd : ByLo (o ++ rb)
def SortRel (l : List Span) (W : World) (a b out : Value) (wr : World) : Prop := ∃ ra rb o : List Span, IsRow (fun t : Kr.Span => [.int .i64 t.lo, .int .i64 t.hi]) 2 W a ra ∧ IsRow (fun t : Kr.Span => [.int .i64 t.lo, .int .i64 t.hi]) 2 W b rb ∧ wr.ownsRow W.heap.size 28 2 out o.length (spanCs o) ∧ MergeAt l ra rb o ∧ W.Exts wr
def lenV : Value → Nat | .slice _ n _ => n | _ => 0

theorem merge_a {l : List Span} {x : Span} {ra rb o : List Span} (h : MergeAt l (x :: ra) rb o) (hx : ∀ y ∈ rb, x.lo ≤ y.lo) : MergeAt l ra rb (o ++ [x]) := by
  obtain ⟨h1, h2, h3⟩ := h
  refine ⟨by simpa using h1, by simpa using h2, ?_⟩
  obtain ⟨p1, p2, p3⟩ := List.pairwise_append.1 h2
  obtain ⟨q1, q2, q3⟩ := List.pairwise_append.1 h3
  refine List.pairwise_append.2 ⟨List.pairwise_append.2 ⟨p1, List.pairwise_singleton _ _, fun a ha b hb => ?_⟩, q2, fun a ha b hb => ?_⟩
  · rw [List.mem_singleton.1 hb]; exact p3 a ha x (List.mem_cons_self ..)
  · rcases List.mem_append.1 ha with ha | ha
    · exact q3 a ha b hb
    · rw [List.mem_singleton.1 ha]; exact hx b hb
theorem merge_b {l : List Span} {y : Span} {ra rb o : List Span} (h : MergeAt l ra (y :: rb) o) (hy : ∀ x ∈ ra, y.lo ≤ x.lo) : MergeAt l ra rb (o ++ [y]) := by
  obtain ⟨h1, h2, h3⟩ := h
  refine ⟨?_, ?_, by simpa using h3⟩
  · refine List.Perm.trans ?_ h1
    rw [List.append_assoc]
    exact List.Perm.append_left _ (List.perm_middle (l₁ := ra) (a := y) (l₂ := rb)).symm
  obtain ⟨p1, p2, p3⟩ := List.pairwise_append.1 h2
  obtain ⟨q1, q2, q3⟩ := List.pairwise_append.1 h3
  refine List.pairwise_append.2 ⟨List.pairwise_append.2 ⟨p1, List.pairwise_singleton _ _, fun a ha b hb => ?_⟩, p2, fun a ha b hb => ?_⟩
  · rw [List.mem_singleton.1 hb]; exact q3 a ha y (List.mem_cons_self ..)
  · rcases List.mem_append.1 ha with ha | ha
    · exact p3 a ha b hb
    · rw [List.mem_singleton.1 ha]; exact hy b hb
theorem head_le {x : Span} {l : List Span} {o : List Span} (h : ByLo (o ++ x :: l)) : ∀ y ∈ x :: l, x.lo ≤ y.lo := by
  intro y hy
  have h2 := (List.pairwise_append.1 h).2.1
  rcases List.mem_cons.1 hy with rfl | hy
  · exact Int.le_refl _
  · exact (List.pairwise_cons.1 h2).1 y hy

set_option maxHeartbeats 400000 in
theorem r04_sorted_short (l : List Span) (v : Value) (w : World) (hrow : IsRow (fun t : Kr.Span => [.int .i64 t.lo, .int .i64 t.hi]) 2 w v l) (h2 : l.length < 2) : Calls Tryz.prog 248 #[v] w fun e w' => ∃ v' l', e = .returned v' ∧ IsRow (fun t : Kr.Span => [.int .i64 t.lo, .int .i64 t.hi]) 2 w' v' l' ∧ l'.Perm l ∧ ByLo l' ∧ w.Exts w' := by
  have hb : ByLo l := by
    match l, h2 with
    | [], _ => exact List.Pairwise.nil
    | [x], _ => exact List.pairwise_singleton _ _
  obtain ⟨q, cap, rfl⟩ := hrow.len
  have HR := Lib.hid hrow
  clear hrow
  go_enter Tryz.func248, Tryz.ntmps248
  go_wp2_with fail
  go_ret
  exact ⟨_, l, rfl, HR.out, List.Perm.refl _, hb, exq⟩

set_option maxRecDepth 4000 in
set_option maxHeartbeats 4000000 in
theorem r04_sorted_any : ∀ (N : Nat) (l : List Span), l.length ≤ N → l.length ≤ 1000000000000 → ∀ (v : Value) (w : World), IsRow (fun t : Kr.Span => [.int .i64 t.lo, .int .i64 t.hi]) 2 w v l →
    Calls Tryz.prog 248 #[v] w fun e w' => ∃ v' l', e = .returned v' ∧ IsRow (fun t : Kr.Span => [.int .i64 t.lo, .int .i64 t.hi]) 2 w' v' l' ∧ l'.Perm l ∧ ByLo l' ∧ w.Exts w' := by
  intro N
  induction N with
  | zero =>
    intro l hN hmax v w hrow
    exact r04_sorted_short l v w hrow (by omega)
  | succ N ih =>
    intro l hN hmax v w hrow
    rcases Nat.lt_or_ge l.length 2 with h2 | h2
    · exact r04_sorted_short l v w hrow h2
    · obtain ⟨q, b, o, cap, rfl, hm, hq, hc⟩ := hrow.ex
      obtain ⟨rfl, hlay⟩ := hq (by omega)
      have hk1 : l.length / 2 ≤ l.length := by omega
      have ha := IsRow_take hrow (l.length / 2) hk1
      have hb := IsRow_drop hrow (l.length / 2) (by omega)
      have iha := fun W (hW : w.Exts W) => ih (l.take (l.length / 2)) (by rw [List.length_take]; omega) (by rw [List.length_take]; omega) (.slice (some ⟨b, o, none⟩) (l.length / 2) cap) W (ha.mono hW)
      have ihb := fun W (hW : w.Exts W) => ih (l.drop (l.length / 2)) (by rw [List.length_drop]; omega) (by rw [List.length_drop]; omega) (.slice (some ⟨b, o + l.length / 2 * 2, none⟩) (l.length - l.length / 2) (cap - l.length / 2)) W (hb.mono hW)
      have HA := Lib.hid ha
      clear ha
      have HB := Lib.hid hb
      clear hb
      have IHA := Lib.hid iha
      clear iha
      have IHB := Lib.hid ihb
      clear ihb
      clear hc hq hrow ih
      go_enter Tryz.func248, Tryz.ntmps248
      go_wp2_with fail
      have hΦm : ∀ (c : Nat) (v : Value) (W W' : World), SortedAt l c W v → W.Exts W' → SortedAt l c W' v := fun c v W W' h hE => h.mono hE
      refine wp_region_calls 12 (fun i => i == 5 || i == 11) (fun c v W => SortedAt l c W v) (by kernel_rfl) (fun ν => by kernel_rfl) (by kernel_rfl) (by kernel_rfl) (by kernel_rfl) (by kernel_rfl) ?mono ?_
      rotate_left 1
      apply Exists.intro
      refine ⟨fun ν L hL => ?_, fun c oc hc hU ν W hE hΦ => ?_, fun ν W hE hΦ => ?_⟩
      · simp only [modU, cOp, List.mapIdx_cons, List.mapIdx_nil, Nat.zero_add, Nat.reduceAdd, Nat.reduceBEq, Bool.or_false, Bool.false_or, Bool.or_true, Bool.true_or, Bool.or_self, Bool.false_eq_true, if_false, if_true, List.take_succ_cons, List.take_zero]
        repeat (go_big_quiet_step (fail))
        exact wpQuiet_nil hL
      · simp at hU
        rcases hU with rfl | rfl
        · simp only [List.getElem?_cons_succ, List.getElem?_cons_zero, Option.some.injEq] at hc
          subst hc
          refine Oper.gives_fn rfl rfl rfl (enters_of Tryz.func248 (by kernel_rfl) rfl) ?_ rfl
          refine (IHA.out _ hE).mono ?_
          rintro e W' ⟨v', l', rfl, h1, h2, h3, h4⟩
          exact ⟨v', rfl, h4, l', h1, h2, h3⟩
        · simp only [List.getElem?_cons_succ, List.getElem?_cons_zero, Option.some.injEq] at hc
          subst hc
          refine Oper.gives_fn rfl rfl rfl (enters_of Tryz.func248 (by kernel_rfl) rfl) ?_ rfl
          refine (IHB.out _ hE).mono ?_
          rintro e W' ⟨v', l', rfl, h1, h2, h3, h4⟩
          exact ⟨v', rfl, h4, l', h1, h2, h3⟩
      · obtain ⟨la, hra, hpa, hsa⟩ := hΦ 5 (by decide) rfl
        obtain ⟨lb, hrb, hpb, hsb⟩ := hΦ 11 (by decide) rfl
        rw [if_pos rfl] at hpa
        rw [if_neg (by decide)] at hpb
        have hperm0 : (la ++ lb).Perm l := (hpa.append hpb).trans (by rw [List.take_append_drop])
        clear hΦ hpa hpb hΦm
        simp only [List.drop_succ_cons, List.drop_zero]
        generalize ν 5 = va at hra ⊢
        generalize ν 11 = vb at hrb ⊢
        obtain ⟨qa, ca, rfl⟩ := hra.len
        obtain ⟨qb, cb, rfl⟩ := hrb.len
        obtain ⟨XS, rfl⟩ := hE
        have HRA := Lib.hid hra
        clear hra
        have HRB := Lib.hid hrb
        clear hrb
        have HSA := Lib.hid hsa
        clear hsa
        have HSB := Lib.hid hsb
        clear hsb
        have HP0 := Lib.hid hperm0
        clear hperm0
        go_wp2_with fail
        go_loopw [3, 4, 5] (fun a b out wr => SortRel l (w.ext XS) a b out wr) (fun a b _ _ => lenV a + lenV b)
        case atStart => exact ⟨la, lb, [], HRA.out, HRB.out, World.ownsRow_nil _ _ _ _, ⟨by simpa using HP0.out, by simpa using HSA.out, by simpa using HSB.out⟩, exq⟩
        case round =>
          obtain ⟨ra, rb, o, hra, hrb, ho, hmg, hE⟩ := hrel
          have HRA := Lib.hid hra
          clear hra
          have HRB := Lib.hid hrb
          clear hrb
          have HO := Lib.hid ho
          clear ho
          have HM := Lib.hid hmg
          clear hmg
          obtain ⟨X2, rfl⟩ := hE
          obtain ⟨pa, ba, oa, ca, rfl, hma, hpa, hca⟩ := HRA.out.ex
          obtain ⟨pb, bb, ob, cb, rfl, hmb, hpb, hcb⟩ := HRB.out.ex
          have hol : o.length + (ra.length + rb.length) = l.length := by have h := HM.out.perm.length_eq; simpa using h
          cases ra with
          | nil =>
            cases rb with
            | nil =>
              have hfin : o.Perm l := by simpa using HM.out.perm
              have hsrt : ByLo o := by simpa using HM.out.fst
              have hrw := row_spans HO.out
              have HRW := Lib.hid hrw
              clear hrw
              clear hpa hca hpb hcb
              simp only [List.length_nil]
              go_wp2_with fail
              go_ret
              exact ⟨_, o, rfl, HRW.out.mono exq, hfin, hsrt, exq⟩
            | cons y rb =>
              obtain ⟨rfl, hlayA⟩ := hpb (by simp)
              have a0 := hcb 0 y rfl 0 _ rfl
              have a1 := hcb 0 y rfl 1 _ rfl
              simp only [Nat.zero_mul, Nat.add_zero, List.length_cons] at a0 a1 hmb
              simp only [List.length_cons]
              haveI := Lays.of_cell a0
              have htA := IsRow_tail HRB.out
              have HTB := Lib.hid htA
              clear htA
              clear hpb hcb
              have hslA : (1 : Int) ≤ (rb.length : Int) + 1 := by omega
              have hzA : (((rb.length : Int) + 1) == 0) = false := by rw [beq_eq_false_iff_ne]; omega
              clear hpa hca
              have hmg2 := merge_b HM.out (fun x hx => by cases hx)
              have HMG := Lib.hid hmg2
              clear hmg2
              simp only [List.length_nil]
              go_wp2_with fail
              refine wp_region_ext (by kernel_rfl) (by kernel_rfl) ?_
              repeat (go_big_quiet_step (fail))
              refine wpQuiet_nil ?_
              rintro _ ⟨X, rfl⟩
              go_wp2_with fail
              go_region_law (refine step_append1 (.tmp 57) (.tmp 61) elem_Span rfl rfl (World.ext _ X2) exq rfl HO.out [.int .i64 y.lo, .int .i64 y.hi] _ rfl (by intro j u hj; rcases j with _ | _ | j <;> simp at hj; all_goals (subst hj; simp [go_sem])) rfl (one_Span y) (by omega) (by decide) (World.Exts.size exq) ?_; intro v' w' hown' happ; have HO3 := Lib.hid hown'; have HE3 := Lib.hid (happ (w.ext XS) exq (Nat.le_refl _)); clear hown' happ)
              all_goals
                go_wp2_with fail
                all_goals exact ⟨⟨_, _, _, ⟨[], rb, o ++ [y], HRA.out, (by have t := HTB.out; first | exact t | (rw [if_pos (by assumption), show cb - 1 = 0 by omega] at t; exact t) | (rw [if_neg (by assumption)] at t; exact t)), by rw [spanCs_snoc, List.length_append]; exact HO3.out, HMG.out, HE3.out⟩, rfl, rfl, rfl⟩, by simp [lenV]⟩
          | cons x ra =>
            obtain ⟨rfl, hlayA⟩ := hpa (by simp)
            have a0 := hca 0 x rfl 0 _ rfl
            have a1 := hca 0 x rfl 1 _ rfl
            simp only [Nat.zero_mul, Nat.add_zero, List.length_cons] at a0 a1 hma
            simp only [List.length_cons]
            haveI := Lays.of_cell a0
            have htA := IsRow_tail HRA.out
            have HTA := Lib.hid htA
            clear htA
            clear hpa hca
            have hslA : (1 : Int) ≤ (ra.length : Int) + 1 := by omega
            have hzA : (((ra.length : Int) + 1) == 0) = false := by rw [beq_eq_false_iff_ne]; omega
            cases rb with
            | nil =>
              clear hpb hcb
              have hmg2 := merge_a HM.out (fun x hx => by cases hx)
              have HMG := Lib.hid hmg2
              clear hmg2
              simp only [List.length_nil]
              go_wp2_with fail
              refine wp_region_ext (by kernel_rfl) (by kernel_rfl) ?_
              repeat (go_big_quiet_step (fail))
              refine wpQuiet_nil ?_
              rintro _ ⟨X, rfl⟩
              go_wp2_with fail
              go_region_law (refine step_append1 (.tmp 49) (.tmp 53) elem_Span rfl rfl (World.ext _ X2) exq rfl HO.out [.int .i64 x.lo, .int .i64 x.hi] _ rfl (by intro j u hj; rcases j with _ | _ | j <;> simp at hj; all_goals (subst hj; simp [go_sem])) rfl (one_Span x) (by omega) (by decide) (World.Exts.size exq) ?_; intro v' w' hown' happ; have HO3 := Lib.hid hown'; have HE3 := Lib.hid (happ (w.ext XS) exq (Nat.le_refl _)); clear hown' happ)
              all_goals
                go_wp2_with fail
                all_goals exact ⟨⟨_, _, _, ⟨ra, [], o ++ [x], (by have t := HTA.out; first | exact t | (rw [if_pos (by assumption), show ca - 1 = 0 by omega] at t; exact t) | (rw [if_neg (by assumption)] at t; exact t)), HRB.out, by rw [spanCs_snoc, List.length_append]; exact HO3.out, HMG.out, HE3.out⟩, rfl, rfl, rfl⟩, by simp [lenV]⟩
            | cons y rb =>
              obtain ⟨rfl, hlayB⟩ := hpb (by simp)
              have d0 := hcb 0 y rfl 0 _ rfl
              have d1 := hcb 0 y rfl 1 _ rfl
              simp only [Nat.zero_mul, Nat.add_zero, List.length_cons] at d0 d1 hmb
              simp only [List.length_cons]
              haveI := Lays.of_cell d0
              have htB := IsRow_tail HRB.out
              have HTB := Lib.hid htB
              clear htB
              clear hpb hcb
              have hslB : (1 : Int) ≤ (rb.length : Int) + 1 := by omega
              have hzB : (((rb.length : Int) + 1) == 0) = false := by rw [beq_eq_false_iff_ne]; omega
              rcases Int.lt_or_le y.lo x.lo with hc | hc
              · have hmg2 := merge_b HM.out (fun z hz => by have := head_le HM.out.fst z hz; omega)
                have HMG := Lib.hid hmg2
                clear hmg2
                go_wp2_with fail
                refine wp_region_ext (by kernel_rfl) (by kernel_rfl) ?_
                repeat (go_big_quiet_step (fail))
                refine wpQuiet_nil ?_
                rintro _ ⟨X, rfl⟩
                go_wp2_with fail
                go_region_law (refine step_append1 (.tmp 57) (.tmp 61) elem_Span rfl rfl (World.ext _ X2) exq rfl HO.out [.int .i64 y.lo, .int .i64 y.hi] _ rfl (by intro j u hj; rcases j with _ | _ | j <;> simp at hj; all_goals (subst hj; simp [go_sem])) rfl (one_Span y) (by omega) (by decide) (World.Exts.size exq) ?_; intro v' w' hown' happ; have HO3 := Lib.hid hown'; have HE3 := Lib.hid (happ (w.ext XS) exq (Nat.le_refl _)); clear hown' happ)
                all_goals
                  go_wp2_with fail
                  all_goals exact ⟨⟨_, _, _, ⟨x :: ra, rb, o ++ [y], HRA.out, (by have t := HTB.out; first | exact t | (rw [if_pos (by assumption), show cb - 1 = 0 by omega] at t; exact t) | (rw [if_neg (by assumption)] at t; exact t)), by rw [spanCs_snoc, List.length_append]; exact HO3.out, HMG.out, HE3.out⟩, rfl, rfl, rfl⟩, by simp [lenV]⟩
              · have hmg2 := merge_a HM.out (fun z hz => by have := head_le HM.out.snd z hz; omega)
                have HMG := Lib.hid hmg2
                clear hmg2
                go_wp2_with fail
                refine wp_region_ext (by kernel_rfl) (by kernel_rfl) ?_
                repeat (go_big_quiet_step (fail))
                refine wpQuiet_nil ?_
                rintro _ ⟨X, rfl⟩
                go_wp2_with fail
                go_region_law (refine step_append1 (.tmp 49) (.tmp 53) elem_Span rfl rfl (World.ext _ X2) exq rfl HO.out [.int .i64 x.lo, .int .i64 x.hi] _ rfl (by intro j u hj; rcases j with _ | _ | j <;> simp at hj; all_goals (subst hj; simp [go_sem])) rfl (one_Span x) (by omega) (by decide) (World.Exts.size exq) ?_; intro v' w' hown' happ; have HO3 := Lib.hid hown'; have HE3 := Lib.hid (happ (w.ext XS) exq (Nat.le_refl _)); clear hown' happ)
                all_goals
                  go_wp2_with fail
                  all_goals exact ⟨⟨_, _, _, ⟨ra, y :: rb, o ++ [x], (by have t := HTA.out; first | exact t | (rw [if_pos (by assumption), show ca - 1 = 0 by omega] at t; exact t) | (rw [if_neg (by assumption)] at t; exact t)), HRB.out, by rw [spanCs_snoc, List.length_append]; exact HO3.out, HMG.out, HE3.out⟩, rfl, rfl, rfl⟩, by simp [lenV]⟩
      case mono => exact hΦm
end Go.Proofs.YtilmniopollbiaaGreatDoor

/-
  Walks of the reference of layer 4: the fewest spans; sums; all sums.
-/
set_option linter.unusedSimpArgs false
namespace Go.Proofs.YtilmniopollbiaaGreatDoor
open Go.RowKit Kr

set_option maxRecDepth 4000 in
set_option maxHeartbeats 4000000 in
theorem r04_Merged_any (l : List Span) (v : Value) (w : World) (hrow : IsRow (fun t : Kr.Span => [.int .i64 t.lo, .int .i64 t.hi]) 2 w v l) (hfull : Full l) (hin : Within 0 100000000000 l) (hlen : l.length ≤ 1000000000000) :
    Calls Tryz.prog 204 #[v] w fun e w' => ∃ v', e = .returned v' ∧ IsRow (fun t : Kr.Span => [.int .i64 t.lo, .int .i64 t.hi]) 2 w' v' (merged l) ∧ w.Exts w' := by
  obtain ⟨q, cap, rfl⟩ := hrow.len
  have HR := Lib.hid hrow
  clear hrow
  have HFULL := Lib.hid hfull
  clear hfull
  have HIN := Lib.hid hin
  clear hin
  go_enter Tryz.func204, Tryz.ntmps204
  go_wp2_with (at_builtin; refine wpList_append_litL (.tmp 6) (.tmp 7) (zs := []) (ys := l) (enc := fun t : Kr.Span => [.int .i64 t.lo, .int .i64 t.hi]) elem_Span rfl rfl _ (by simp) rfl rfl rfl (HR.out.mono exq) (fun _ => rfl) (fun s => one_Span s) (by simpa using hlen) (by decide) ?_; intro v' X5 hr5; have HR5 := Lib.hid hr5; clear hr5)
  refine (r04_sorted_any l.length l (Nat.le_refl _) hlen _ _ (by simpa using HR5.out)).mono ?_
  rintro e w' ⟨v2, ys, rfl, hrowS, hperm, hbylo, hEw2⟩
  have hysl : ys.length = l.length := hperm.length_eq
  have hyb : ys.length ≤ 1000000000000 := by rw [hysl]; exact hlen
  have hyf : ∀ s ∈ ys, s.lo ≤ s.hi ∧ 0 ≤ s.lo ∧ s.hi ≤ 100000000000 := fun s hs => ⟨HFULL.out s (hperm.mem_iff.1 hs), (HIN.out s (hperm.mem_iff.1 hs)).1, (HIN.out s (hperm.mem_iff.1 hs)).2⟩
  have hfin := merged_of hperm hbylo HFULL.out
  have HYF := Lib.hid hyf
  clear hyf
  have HFIN := Lib.hid hfin
  clear hfin
  obtain ⟨qs, bs, os, caps, rfl, hms, hqs, hcss⟩ := hrowS.ex
  have HQS := Lib.hid hqs
  clear hqs
  have HCS := Lib.hid hcss
  clear hcss
  have hEw3 : w.Exts w' := World.Exts.trans exq hEw2
  obtain ⟨X2, rfl⟩ := hEw3
  clear hperm hbylo hysl hrowS hEw2
  go_wp2_with fail
  go_loopw [3, 4] (fun few i wr => ∃ k : Nat, k ≤ ys.length ∧ i = .int .i64 k ∧ Hid (wr.ownsRow (w.ext X2).heap.size 28 2 few ((ys.take k).foldl push []).length (spanCs ((ys.take k).foldl push []))) ∧ (w.ext X2).Exts wr) (fun _ i _ => ys.length - (intOf i).toNat)
  case atStart => exact ⟨0, Nat.zero_le _, rfl, Lib.hid (World.ownsRow_nil _ _ _ _), exq⟩
  case round =>
    obtain ⟨k2, hk2, rfl, HO, hE⟩ := hrel
    obtain ⟨X, rfl⟩ := hE
    by_cases hlt2 : k2 < ys.length
    · obtain ⟨rfl, hl⟩ := HQS.out (by omega)
      obtain ⟨s, hs⟩ := some_of_lt hlt2
      have hcs := HCS.out k2 s hs
      have c0 := hcs 0 _ rfl
      have c1 := hcs 1 _ rfl
      simp only [Nat.add_zero] at c0 c1
      obtain ⟨hs1, hs2, hs3⟩ := HYF.out s (List.mem_of_getElem? hs)
      have hnx : (ys.take (k2 + 1)).foldl push [] = push ((ys.take k2).foldl push []) s := by rw [take_snoc hs, List.foldl_append]; rfl
      have hfl : ((ys.take k2).foldl push []).length ≤ k2 := by
        have h := push_len (ys.take k2) []
        rw [List.length_take] at h; simp at h; omega
      have hfb : ∀ y ∈ (ys.take k2).foldl push [], 0 ≤ y.hi ∧ y.hi ≤ 100000000000 := fold_hi (fun y hy => by have := HYF.out y (List.mem_of_mem_take hy); omega)
      generalize (ys.take k2).foldl push [] = fs at hnx hfl hfb HO
      have HNX := Lib.hid hnx
      clear hnx
      clear hs hcs HQS HCS HYF
      rcases snoc_cases fs with rfl | ⟨r, kk, rfl⟩
      · obtain ⟨pf, cf, rfl⟩ := owns_len HO.out
        simp only [List.length_nil] at *
        go_wp2_with fail
        refine wp_region_ext (by kernel_rfl) (by kernel_rfl) ?_
        repeat (go_big_quiet_step (fail))
        refine wpQuiet_nil ?_
        rintro _ ⟨X, rfl⟩
        go_wp2_with (at_builtin; refine wpList_append1L (.tmp 50) (.tmp 55) elem_Span rfl rfl rfl (ownsRow_exts HO.out exq) [.int .i64 s.lo, .int .i64 s.hi] _ (by simp) rfl rfl ?h1 ?h2 ?h4 ?h3 ?_)
        case h1 => exact one_Span _
        case h2 => omega
        case h4 => decide
        case h3 => exact World.Exts.size exq
        intro v' w' hown' happ
        have hE := happ.exts (w.ext X2) exq (Nat.le_refl _)
        have HO3 := Lib.hid hown'
        clear hown'
        have HE := Lib.hid hE
        clear hE
        clear happ
        go_wp2_with fail
        go_roundw
        case rel => exact ⟨k2 + 1, by omega, by go_num, Lib.hid (by rw [HNX.out]; simpa [push_nil, spanCs] using HO3.out), HE.out⟩
        case measure => simp [intOf]; omega
      · obtain ⟨g2, cf, rfl, hbg, hlg⟩ := owns_form HO.out (by simp)
        have hkk := hfb kk (by simp)
        have hlr : (r ++ [kk]).length = r.length + 1 := by simp
        have e1 : (World.ext _ X).cell? ⟨g2, r.length * 2 + 1, none⟩ = some (.int .i64 kk.hi) := by rw [HO.out.cellAt _ (by rw [hlr]; omega)]; exact spanCs_at r kk 1 _ rfl
        have f1 := HO.out.frozenAt (r.length * 2 + 1)
        haveI := Lays.of_cell e1
        rw [hlr] at HO hfl ⊢
        clear hfb hlr
        rcases Int.lt_or_le (kk.hi + 1) s.lo with hc | hc
        · go_wp2_with fail
          refine wp_region_ext (by kernel_rfl) (by kernel_rfl) ?_
          repeat (go_big_quiet_step (fail))
          refine wpQuiet_nil ?_
          rintro _ ⟨X, rfl⟩
          go_wp2_with (at_builtin; refine wpList_append1L (.tmp 50) (.tmp 55) elem_Span rfl rfl rfl (ownsRow_exts HO.out exq) [.int .i64 s.lo, .int .i64 s.hi] _ (by simp) rfl rfl ?h1 ?h2 ?h4 ?h3 ?_)
          case h1 => exact one_Span _
          case h2 => omega
          case h4 => decide
          case h3 => exact World.Exts.size exq
          intro v' w' hown' happ
          have hE := happ.exts (w.ext X2) exq (Nat.le_refl _)
          have HO3 := Lib.hid hown'
          clear hown'
          have HE := Lib.hid hE
          clear hE
          clear happ
          go_wp2_with fail
          go_roundw
          case rel => exact ⟨k2 + 1, by omega, by go_num, Lib.hid (by rw [HNX.out, push_snoc, if_neg (by omega), spanCs_snoc, List.length_append, List.length_append]; exact HO3.out), HE.out⟩
          case measure => simp [intOf]; omega
        · rcases Int.lt_or_le kk.hi s.hi with hm1 | hm1
          · go_wp2_with fail
            refine wp_region_ext (by kernel_rfl) (by kernel_rfl) ?_
            repeat (go_big_quiet_step (fail))
            refine wpQuiet_nil ?_
            rintro _ ⟨X, rfl⟩
            go_wp2_with fail
            refine wp_region_ext_tail 15 (by kernel_rfl) (by kernel_rfl) ?_
            simp only [List.take_succ_cons, List.take_zero, List.drop_succ_cons, List.drop_zero]
            repeat (go_big_quiet_step (fail))
            refine wpQuiet_nil ?_
            rintro _ ⟨X, rfl⟩
            go_wp2_with fail
            go_roundw
            case rel => exact ⟨k2 + 1, by omega, by go_num, Lib.hid (by rw [HNX.out, push_snoc, if_pos (by omega), List.length_append, ← spanCs_set, Int.max_eq_right (by omega)]; exact ((ownsRow_exts HO.out exq).stored _ _).1), exq⟩
            case measure => simp [intOf]; omega
          · go_wp2_with fail
            refine wp_region_ext (by kernel_rfl) (by kernel_rfl) ?_
            repeat (go_big_quiet_step (fail))
            refine wpQuiet_nil ?_
            rintro _ ⟨X, rfl⟩
            go_wp2_with fail
            refine wp_region_ext_tail 15 (by kernel_rfl) (by kernel_rfl) ?_
            simp only [List.take_succ_cons, List.take_zero, List.drop_succ_cons, List.drop_zero]
            repeat (go_big_quiet_step (fail))
            refine wpQuiet_nil ?_
            rintro _ ⟨X, rfl⟩
            go_wp2_with fail
            go_roundw
            case rel => exact ⟨k2 + 1, by omega, by go_num, Lib.hid (by rw [HNX.out, push_snoc, if_pos (by omega), List.length_append, ← spanCs_set, Int.max_eq_left (by omega)]; exact ((ownsRow_exts HO.out exq).stored _ _).1), exq⟩
            case measure => simp [intOf]; omega
    · have hkn2 : k2 = ys.length := by omega
      have hO := HO.out
      rw [hkn2, List.take_length, HFIN.out] at hO
      have HO3 := Lib.hid hO
      clear hO
      clear hkn2
      go_wp2_with fail
      go_ret
      exact ⟨_, rfl, row_spans HO3.out, exq⟩

set_option maxRecDepth 4000 in
set_option maxHeartbeats 1000000 in
theorem r04_sums_any (l : List Part) (v : Value) (w : World) (hrow : IsRow (fun t : Kr.Part => [.int .i64 t.gain, .int .i64 t.off, .int .i64 t.sum.lo, .int .i64 t.sum.hi]) 4 w v l) (k : Nat) (hk : k ≤ 1000) (hg : Kr.Good k l) (hlen : l.length ≤ 1000000000000) :
    Calls Tryz.prog 167 #[v] w fun e w' => ∃ v', e = .returned v' ∧ IsRow (fun t : Kr.Span => [.int .i64 t.lo, .int .i64 t.hi]) 2 w' v' (sums l) ∧ w.Exts w' := by
  have hw : Within 0 100000000000 (l.map Part.sum) := fun s hs => by have := good_within hg s hs; omega
  obtain ⟨q, b, o, cap, rfl, hm, hq, hc⟩ := hrow.ex
  have HC := Lib.hid hc
  clear hc
  have HQ := Lib.hid hq
  clear hq
  have HG := Lib.hid hg
  clear hg
  have HW := Lib.hid hw
  clear hw
  clear hrow
  go_enter Tryz.func167, Tryz.ntmps167
  go_wp2_with fail
  go_loopw [3, 4] (fun out i wr => ∃ m : Nat, m ≤ l.length ∧ i = .int .i64 m ∧ Hid (wr.ownsRow w.heap.size 28 2 out ((l.take m).map Part.sum).length (spanCs ((l.take m).map Part.sum))) ∧ w.Exts wr) (fun _ i _ => l.length - (intOf i).toNat)
  case atStart => exact ⟨0, Nat.zero_le _, rfl, Lib.hid (World.ownsRow_nil _ _ _ _), exq⟩
  case round =>
    obtain ⟨m, hm2, rfl, HO, hE⟩ := hrel
    obtain ⟨X, rfl⟩ := hE
    by_cases hlt : m < l.length
    · obtain ⟨rfl, hl⟩ := HQ.out (by omega)
      obtain ⟨x, hx⟩ := some_of_lt hlt
      have hcs := HC.out m x hx
      have c0 := hcs 0 _ rfl
      have c1 := hcs 1 _ rfl
      have c2 := hcs 2 _ rfl
      have c3 := hcs 3 _ rfl
      simp only [Nat.add_zero] at c0 c1 c2 c3
      have hnx : (l.take (m + 1)).map Part.sum = (l.take m).map Part.sum ++ [x.sum] := by rw [take_snoc hx, List.map_append]; rfl
      have hlm : ((l.take m).map Part.sum).length ≤ 1000000000000 := by rw [List.length_map, List.length_take]; omega
      generalize (l.take m).map Part.sum = L at hnx hlm HO
      have HNX := Lib.hid hnx
      clear hnx
      clear hx hcs HQ HC
      go_wp2_with (at_builtin; refine wpList_append1W (.tmp 11) (.tmp 17) elem_Span rfl rfl rfl (ownsRow_exts HO.out exq) [.int .i64 x.sum.lo, .int .i64 x.sum.hi] _ (by simp) rfl rfl ?h1 ?h2 ?h4 ?h3 ?_)
      case h1 => exact one_Span x.sum
      case h2 => omega
      case h4 => decide
      case h3 => exact World.Exts.size exq
      intro v' w' hown' happ
      have hE := happ.exts w exq (Nat.le_refl _)
      have HO3 := Lib.hid hown'
      clear hown'
      have HE := Lib.hid hE
      clear hE
      clear happ
      go_wp2_with fail
      go_roundw
      case rel => exact ⟨m + 1, by omega, by go_num, Lib.hid (by rw [HNX.out, spanCs_snoc, List.length_append]; exact HO3.out), HE.out⟩
      case measure => simp [intOf]; omega
    · have hmn : m = l.length := by omega
      have hO := HO.out
      rw [hmn, List.take_length] at hO
      have hrw := row_spans hO
      have HRW := Lib.hid hrw
      clear hrw
      clear hmn HO hO
      go_wp2_with (go_at_call 204; refine (r04_Merged_any (l.map Part.sum) _ _ (HRW.out.mono exq) (good_full HG.out) HW.out (by rw [List.length_map]; exact hlen)).mono ?_; rintro e w' ⟨v', rfl, hv, X2, rfl⟩; obtain ⟨q, cp, rfl⟩ := hv.len; have HV := Lib.hid hv; clear hv)
      go_ret
      exact ⟨_, rfl, HV.out, exq⟩

/-- A span that lies in a block made for it. -/
def BoxedSpan (lo hi : Int) (v : Value) (W : World) : Prop := ∃ nb, v = .slice (some ⟨nb, 0, none⟩) 1 1 ∧ LaysAs W nb (.cells #[.int .i64 lo, .int .i64 hi] 28 (0, 0))
theorem BoxedSpan.mono {lo hi : Int} {v : Value} {W W' : World} (h : BoxedSpan lo hi v W) (hE : W.Exts W') : BoxedSpan lo hi v W' := by
  obtain ⟨nb, h1, h2⟩ := h; exact ⟨nb, h1, h2.exts hE⟩

set_option maxRecDepth 4000 in
set_option maxHeartbeats 2000000 in
theorem r04_plus_any (a b : List Span) (va vb : Value) (w : World) (ha : IsRow (fun t : Kr.Span => [.int .i64 t.lo, .int .i64 t.hi]) 2 w va a) (hb : IsRow (fun t : Kr.Span => [.int .i64 t.lo, .int .i64 t.hi]) 2 w vb b) (fa : Full a) (fb : Full b) (wa : Within 0 40000000000 a) (wb : Within 0 40000000000 b) (hl : a.length * b.length ≤ 1000000000000) :
    Calls Tryz.prog 166 #[va, vb] w fun e w' => ∃ v', e = .returned v' ∧ IsRow (fun t : Kr.Span => [.int .i64 t.lo, .int .i64 t.hi]) 2 w' v' (plus a b) ∧ w.Exts w' := by
  obtain ⟨q1, b1, o1, cap1, rfl, hm1, hq1, hc1⟩ := ha.ex
  obtain ⟨q2, b2, o2, cap2, rfl, hm2, hq2, hc2⟩ := hb.ex
  have hcf := crossed_full fa fb
  have hcw : Within 0 100000000000 (crossed a b) := fun s hs => by have := crossed_within wa wb s hs; omega
  have hcl : (crossed a b).length ≤ 1000000000000 := by rw [crossed_len]; exact hl
  have HCF := Lib.hid hcf
  clear hcf
  have HCW := Lib.hid hcw
  clear hcw
  have HC1 := Lib.hid hc1
  clear hc1
  have HC2 := Lib.hid hc2
  clear hc2
  have HQ1 := Lib.hid hq1
  clear hq1
  have HQ2 := Lib.hid hq2
  clear hq2
  have FA := Lib.hid fa
  clear fa
  have FB := Lib.hid fb
  clear fb
  have WA := Lib.hid wa
  clear wa
  have WB := Lib.hid wb
  clear wb
  clear ha hb
  go_enter Tryz.func166, Tryz.ntmps166
  go_wp2_with fail
  go_loopw [5, 6] (fun out i wr => ∃ k : Nat, k ≤ a.length ∧ i = .int .i64 k ∧ Hid (wr.ownsRow w.heap.size 28 2 out (crossed (a.take k) b).length (spanCs (crossed (a.take k) b))) ∧ w.Exts wr) (fun _ i _ => a.length - (intOf i).toNat)
  case atStart => exact ⟨0, Nat.zero_le _, rfl, Lib.hid (World.ownsRow_nil _ _ _ _), exq⟩
  case round =>
    obtain ⟨k, hk, rfl, HO, hE⟩ := hrel
    by_cases hlt : k < a.length
    · obtain ⟨rfl, hl1⟩ := HQ1.out (by omega)
      obtain ⟨s, hs⟩ := some_of_lt hlt
      have hcs := HC1.out k s hs
      have c0 := hcs 0 _ rfl
      have c1 := hcs 1 _ rfl
      simp only [Nat.add_zero] at c0 c1
      have hsw := WA.out s (List.mem_of_getElem? hs)
      have hsf := FA.out s (List.mem_of_getElem? hs)
      have hnk : crossed (a.take (k + 1)) b = crossed (a.take k) b ++ b.map (shift s) := by rw [take_snoc hs, crossed_snoc]
      have hlk := fun m (hm : m ≤ b.length) => crossed_take_len a b k m (shift s) hlt hm
      have HNK := Lib.hid hnk
      clear hnk
      have HLK := Lib.hid hlk
      clear hlk
      clear hs hcs HQ1
      obtain ⟨X, rfl⟩ := hE
      go_wp2_with fail
      go_loopw [5, 7] (fun out i wr => ∃ m : Nat, m ≤ b.length ∧ i = .int .i64 m ∧ Hid (wr.ownsRow w.heap.size 28 2 out (crossed (a.take k) b ++ (b.take m).map (shift s)).length (spanCs (crossed (a.take k) b ++ (b.take m).map (shift s)))) ∧ w.Exts wr) (fun _ i _ => b.length - (intOf i).toNat)
      case atStart => exact ⟨0, Nat.zero_le _, rfl, Lib.hid (by simpa using ownsRow_exts HO.out exq), exq⟩
      case round =>
        obtain ⟨m, hm, rfl, HO2, hE⟩ := hrel
        obtain ⟨X2, rfl⟩ := hE
        by_cases hlt2 : m < b.length
        · obtain ⟨rfl, hl2⟩ := HQ2.out (by omega)
          obtain ⟨t, ht⟩ := some_of_lt hlt2
          have hct := HC2.out m t ht
          have d0 := hct 0 _ rfl
          have d1 := hct 1 _ rfl
          simp only [Nat.add_zero] at d0 d1
          have htw := WB.out t (List.mem_of_getElem? ht)
          have htf := FB.out t (List.mem_of_getElem? ht)
          have hnx : crossed (a.take k) b ++ (b.take (m + 1)).map (shift s) = crossed (a.take k) b ++ (b.take m).map (shift s) ++ [⟨s.lo + t.lo, s.hi + t.hi⟩] := by rw [take_snoc ht, List.map_append, List.append_assoc]; rfl
          have hlm := HLK.out m hm
          generalize hL : crossed (a.take k) b ++ (b.take m).map (shift s) = L at hnx hlm HO2
          have HNX := Lib.hid hnx
          clear hnx
          clear ht hct HQ2 hL
          go_wp2_with fail
          refine wp_region_calls 25 (fun i => i == 24) (fun _ v W => BoxedSpan (s.lo + t.lo) (s.hi + t.hi) v W) (by kernel_rfl) (fun ν => by kernel_rfl) (by kernel_rfl) (by kernel_rfl) (by kernel_rfl) (by kernel_rfl) ?mono ?_
          rotate_left 1
          apply Exists.intro
          refine ⟨fun ν L hL => ?_, fun c oc hc hU ν W hE hΦ => ?_, fun ν W hE hΦ => ?_⟩
          · simp only [modU, cOp, List.mapIdx_cons, List.mapIdx_nil, Nat.zero_add, Nat.reduceAdd, Nat.reduceBEq, Bool.or_false, Bool.false_or, Bool.or_true, Bool.true_or, Bool.or_self, Bool.false_eq_true, if_false, if_true, List.take_succ_cons, List.take_zero]
            repeat (go_big_quiet_step (fail))
            exact wpQuiet_nil hL
          · simp at hU
            subst hU
            simp only [List.getElem?_cons_succ, List.getElem?_cons_zero, Option.some.injEq] at hc
            subst hc
            exact .inr ⟨.slice (some ⟨W.heap.size, 0, none⟩) 1 1, W.alloc (.cells #[.int .i64 (s.lo + t.lo), .int .i64 (s.hi + t.hi)] 28), by kernel_rfl, (World.Exts.refl W).alloc _, W.heap.size, rfl, LaysAs.new _ _⟩
          case mono => exact fun _ _ _ _ h hE => h.mono hE
          obtain ⟨nb, hnv, hnb⟩ := hΦ 24 (by decide) rfl
          simp only [List.drop_succ_cons, List.drop_zero]
          generalize ν 24 = vn at hnv ⊢
          subst hnv
          clear hΦ
          go_wp2_with (at_builtin; refine wpList_appendG (.tmp 20) (.tmp 44) elem_Span rfl rfl (World.ext _ X2) hE rfl HO2.out [.int .i64 (s.lo + t.lo), .int .i64 (s.hi + t.hi)] nb rfl (fun j u hj => hnb.cell j u hj) rfl (one_Span ⟨s.lo + t.lo, s.hi + t.hi⟩) (by omega) (by decide) (World.Exts.size exq) ?_)
          intro v' w' hown' happ
          have hE := happ.exts w exq (Nat.le_refl _)
          have HO3 := Lib.hid hown'
          clear hown'
          have HE := Lib.hid hE
          clear hE
          clear happ
          go_wp2_with fail
          go_roundw
          case rel => exact ⟨m + 1, by omega, by go_num, Lib.hid (by rw [HNX.out, spanCs_snoc, List.length_append]; exact HO3.out), HE.out⟩
          case measure => simp [intOf]; omega
        · have hmb : m = b.length := by omega
          have hO := HO2.out
          rw [hmb, List.take_length, ← HNK.out] at hO
          have HO3 := Lib.hid hO
          clear hO
          clear hmb
          go_wp2_with fail
          go_roundw
          case rel => exact ⟨k + 1, by omega, by go_num, Lib.hid HO3.out, exq⟩
          case measure => simp [intOf]; omega
    · have hka : k = a.length := by omega
      have hO := HO.out
      rw [hka, List.take_length] at hO
      have hrw := row_spans hO
      have HRW := Lib.hid hrw
      clear hrw
      clear hka HO hO
      obtain ⟨X, rfl⟩ := hE
      go_wp2_with (go_at_call 204; refine (r04_Merged_any (crossed a b) _ _ (HRW.out.mono exq) HCF.out HCW.out hcl).mono ?_; rintro e w' ⟨v', rfl, hv, X2, rfl⟩; obtain ⟨q, cp, rfl⟩ := hv.len; have HV := Lib.hid hv; clear hv)
      go_ret
      exact ⟨_, rfl, HV.out, exq⟩
end Go.Proofs.YtilmniopollbiaaGreatDoor
