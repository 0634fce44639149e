/-
  Several texts in one: see the heads of its parts.
-/

import Derived.Test.YtcickafaomfbmaaGreatDoorZSJesTaC
import Derived.Test.YtcickafaomfbmaaGreatDoorZSJesBt
import Derived.Test.YtcickafaomfbmaaGreatDoorZSJesSoT
import Derived.Test.YtcickafaomfbmaaGreatDoorZSJesBs
/-
  Walks of package scale: the fewest spans of things.
-/
namespace Go.Proofs.YtcickafaomfbmaaGreatDoor
open Go.RowKit Kr

/-- A slice's own block is new. -/
def RowN (n0 : Nat) (v : Value) : Prop := ∀ b, v.ownBlock = some b → n0 ≤ b
theorem RowN.le {n0 n1 : Nat} {v : Value} (h : RowN n0 v) (hn : n1 ≤ n0) : RowN n1 v := fun b hb => Nat.le_trans hn (h b hb)

set_option maxRecDepth 4000 in
set_option maxHeartbeats 4000000 in
theorem scale_merged_Span_own (xs : List Span) (v : Value) (w : World) (hrow : IsRow (fun t : Kr.Span => [.int .i64 t.lo, .int .i64 t.hi]) 2 w v xs) (f : Span → Span) (g : Nat) (eg : ∀ args w, (callFunc g args).run Tryz.prog w = .ok (.enter g args) w)
    (hf : ∀ x ∈ xs, ∀ W, w.Exts W → Calls Tryz.prog g #[(fun t : Kr.Span => .agg #[.int .i64 t.lo, .int .i64 t.hi]) x] W fun e W' => e = .returned (.agg #[.int .i64 (f x).lo, .int .i64 (f x).hi]) ∧ W.Exts W') (hfull : Full (xs.map f)) (hin : Within 0 100000000000 (xs.map f)) (hlen : xs.length ≤ 1000000000000) :
    Calls Tryz.prog 125 #[v, .func (.func g) #[] #[]] w fun e w' => ∃ v', e = .returned v' ∧ IsRow (fun t : Kr.Span => [.int .i64 t.lo, .int .i64 t.hi]) 2 w' v' (merged (xs.map f)) ∧ w.Exts w' ∧ RowT 28 w' v' ∧ RowN w.heap.size v' := by
  obtain ⟨q, b, o, cap, rfl, hm, hq, hc⟩ := hrow.ex
  have HC := Lib.hid hc
  clear hc
  have HQ := Lib.hid hq
  clear hq
  have HF := Lib.hid hf
  clear hf
  have HFULL := Lib.hid hfull
  clear hfull
  have HIN := Lib.hid hin
  clear hin
  clear hrow
  go_enter Tryz.func125, Tryz.ntmps125
  go_wp2_with fail
  go_loopw [5, 14] (fun all i wr => ∃ k : Nat, k ≤ xs.length ∧ i = .int .i64 k ∧ Hid (wr.ownsRow w.heap.size 28 2 all ((xs.take k).map f).length (spanCs ((xs.take k).map f))) ∧ w.Exts wr) (fun _ i _ => xs.length - (intOf i).toNat)
  case atStart => exact ⟨0, Nat.zero_le _, rfl, Lib.hid (World.ownsRow_nil _ _ _ _), World.Exts.refl _⟩
  case round =>
    obtain ⟨k, hk, rfl, HO, hE⟩ := hrel
    obtain ⟨X, rfl⟩ := hE
    by_cases hlt : k < xs.length
    · obtain ⟨rfl, hl⟩ := HQ.out (by omega)
      obtain ⟨x, hx⟩ := some_of_lt hlt
      have hcs := HC.out k x hx
      have c0 := hcs 0 _ rfl
      have c1 := hcs 1 _ rfl
      simp only [Nat.add_zero] at c0 c1
      have hcall := HF.out x (List.mem_of_getElem? hx)
      have hnx : (xs.take (k + 1)).map f = (xs.take k).map f ++ [f x] := by rw [take_snoc hx, List.map_append, List.map_singleton]
      have hlk : ((xs.take k).map f).length = k := by rw [List.length_map, List.length_take]; omega
      have HNX := Lib.hid hnx
      clear hnx
      have HCALL := Lib.hid hcall
      clear hcall
      have HLK := Lib.hid hlk
      clear hlk
      clear hx hcs HQ HC HF
      go_wp2_with (first
        | (go_at_fn g; refine (HCALL.out _ exq).mono ?_; rintro e w' ⟨rfl, X2, rfl⟩)
        | (at_builtin; refine wpList_append1L (.tmp 18) (.tmp 22) elem_Span rfl rfl rfl (ownsRow_exts HO.out exq) [.int .i64 (f x).lo, .int .i64 (f x).hi] _ rfl rfl rfl ?h1 ?h2 ?h4 ?h3 ?_))
      case h1 => exact one_Span _
      case h2 => rw [HLK.out]; omega
      case h4 => decide
      case h3 => exact World.Exts.size exq
      intro v' w' hown' happ
      have hE := happ.exts w exq (Nat.le_refl _)
      have HO3 := Lib.hid hown'
      clear hown'
      have HE := Lib.hid hE
      clear hE
      clear happ
      go_wp2_with fail
      go_roundw
      case rel => exact ⟨k + 1, by omega, by go_num, Lib.hid (by rw [HNX.out, spanCs_snoc, List.length_append, HLK.out]; simpa using HO3.out), HE.out⟩
      case measure => simp [intOf]; omega
    · have hkn : k = xs.length := by omega
      have hO := HO.out
      rw [hkn, List.take_length, List.length_map] at hO
      have HO2 := Lib.hid hO
      clear hO
      clear hkn HO
      go_wp2_with fail
      refine (sort_spans w.heap.size _ (xs.map f) _ (by rw [List.length_map]; exact HO2.out) HIN.out HFULL.out (by rw [List.length_map]; exact hlen)).mono ?_
      rintro e w' ⟨rfl, ys, hperm, hbylo, hownS, hexS⟩
      have hEw2 := hexS w exq (Nat.le_refl _)
      have hysl : ys.length = xs.length := by rw [hperm.length_eq, List.length_map]
      have hyf : ∀ s ∈ ys, s.lo ≤ s.hi ∧ 0 ≤ s.lo ∧ s.hi ≤ 100000000000 := fun s hs => ⟨HFULL.out s (hperm.mem_iff.1 hs), (HIN.out s (hperm.mem_iff.1 hs)).1, (HIN.out s (hperm.mem_iff.1 hs)).2⟩
      have hfin := merged_of hperm hbylo HFULL.out
      have hrowS := row_spans (l := ys) (by rw [hysl]; rw [List.length_map] at hownS; exact hownS)
      have hyb : ys.length ≤ 1000000000000 := by rw [hysl]; exact hlen
      have HYSL := Lib.hid hysl
      clear hysl
      have HYF := Lib.hid hyf
      clear hyf
      have HFIN := Lib.hid hfin
      clear hfin
      obtain ⟨qs, bs, os, caps, rfl, hms, hqs, hcss⟩ := hrowS.ex
      have HQS := Lib.hid hqs
      clear hqs
      have HCS := Lib.hid hcss
      clear hcss
      obtain ⟨X2, rfl⟩ := hEw2
      clear hperm hbylo hownS hexS hrowS
      go_wp2_with fail
      go_loopw [8, 29] (fun few i wr => ∃ k : Nat, k ≤ ys.length ∧ i = .int .i64 k ∧ Hid (wr.ownsRow (w.ext X2).heap.size 28 2 few ((ys.take k).foldl push []).length (spanCs ((ys.take k).foldl push []))) ∧ (w.ext X2).Exts wr) (fun _ i _ => ys.length - (intOf i).toNat)
      case atStart => exact ⟨0, Nat.zero_le _, rfl, Lib.hid (World.ownsRow_nil _ _ _ _), exq⟩
      case round =>
        obtain ⟨k2, hk2, rfl, HO, hE⟩ := hrel
        obtain ⟨X, rfl⟩ := hE
        by_cases hlt2 : k2 < ys.length
        · obtain ⟨rfl, hl⟩ := HQS.out (by omega)
          obtain ⟨s, hs⟩ := some_of_lt hlt2
          have hcs := HCS.out k2 s hs
          have c0 := hcs 0 _ rfl
          have c1 := hcs 1 _ rfl
          simp only [Nat.add_zero] at c0 c1
          obtain ⟨hs1, hs2, hs3⟩ := HYF.out s (List.mem_of_getElem? hs)
          have hnx : (ys.take (k2 + 1)).foldl push [] = push ((ys.take k2).foldl push []) s := by rw [take_snoc hs, List.foldl_append]; rfl
          have hfl : ((ys.take k2).foldl push []).length ≤ k2 := by
            have h := push_len (ys.take k2) []
            rw [List.length_take] at h; simp at h; omega
          have hfb : ∀ y ∈ (ys.take k2).foldl push [], 0 ≤ y.hi ∧ y.hi ≤ 100000000000 := fold_hi (fun y hy => by have := HYF.out y (List.mem_of_mem_take hy); omega)
          generalize (ys.take k2).foldl push [] = fs at hnx hfl hfb HO
          have HNX := Lib.hid hnx
          clear hnx
          clear hs hcs HQS HCS HYF
          rcases snoc_cases fs with rfl | ⟨r, kk, rfl⟩
          · obtain ⟨pf, cf, rfl⟩ := owns_len HO.out
            simp only [List.length_nil] at *
            go_wp2_with fail
            refine wp_region_ext (by kernel_rfl) (by kernel_rfl) ?_
            repeat (go_big_quiet_step (fail))
            refine wpQuiet_nil ?_
            rintro _ ⟨X, rfl⟩
            go_wp2_with (at_builtin; refine wpList_append1L (.tmp 63) (.tmp 65) elem_Span rfl rfl rfl (ownsRow_exts HO.out exq) [.int .i64 s.lo, .int .i64 s.hi] _ rfl rfl rfl ?h1 ?h2 ?h4 ?h3 ?_)
            case h1 => exact one_Span _
            case h2 => omega
            case h4 => decide
            case h3 => exact World.Exts.size exq
            intro v' w' hown' happ
            have hE := happ.exts (w.ext X2) exq (Nat.le_refl _)
            have HO3 := Lib.hid hown'
            clear hown'
            have HE := Lib.hid hE
            clear hE
            clear happ
            go_wp2_with fail
            go_roundw
            case rel => exact ⟨k2 + 1, by omega, by go_num, Lib.hid (by rw [HNX.out]; simpa [push_nil, spanCs] using HO3.out), HE.out⟩
            case measure => simp [intOf]; omega
          · obtain ⟨g2, cf, rfl, hbg, hlg⟩ := owns_form HO.out (by simp)
            have hkk := hfb kk (by simp)
            have hlr : (r ++ [kk]).length = r.length + 1 := by simp
            have e1 : (World.ext _ X).cell? ⟨g2, r.length * 2 + 1, none⟩ = some (.int .i64 kk.hi) := by rw [HO.out.cellAt _ (by rw [hlr]; omega)]; exact spanCs_at r kk 1 _ rfl
            have f1 := HO.out.frozenAt (r.length * 2 + 1)
            haveI := Lays.of_cell e1
            rw [hlr] at HO hfl ⊢
            clear hfb hlr
            rcases Int.lt_or_le (kk.hi + 1) s.lo with hc | hc
            · go_wp2_with fail
              refine wp_region_ext (by kernel_rfl) (by kernel_rfl) ?_
              repeat (go_big_quiet_step (fail))
              refine wpQuiet_nil ?_
              rintro _ ⟨X, rfl⟩
              go_wp2_with (at_builtin; refine wpList_append1L (.tmp 63) (.tmp 65) elem_Span rfl rfl rfl (ownsRow_exts HO.out exq) [.int .i64 s.lo, .int .i64 s.hi] _ rfl rfl rfl ?h1 ?h2 ?h4 ?h3 ?_)
              case h1 => exact one_Span _
              case h2 => omega
              case h4 => decide
              case h3 => exact World.Exts.size exq
              intro v' w' hown' happ
              have hE := happ.exts (w.ext X2) exq (Nat.le_refl _)
              have HO3 := Lib.hid hown'
              clear hown'
              have HE := Lib.hid hE
              clear hE
              clear happ
              go_wp2_with fail
              go_roundw
              case rel => exact ⟨k2 + 1, by omega, by go_num, Lib.hid (by rw [HNX.out, push_snoc, if_neg (by omega), spanCs_snoc, List.length_append, List.length_append]; exact HO3.out), HE.out⟩
              case measure => simp [intOf]; omega
            · rcases Int.lt_or_le kk.hi s.hi with hm1 | hm1
              · go_wp2_with fail
                refine wp_region_ext (by kernel_rfl) (by kernel_rfl) ?_
                repeat (go_big_quiet_step (fail))
                refine wpQuiet_nil ?_
                rintro _ ⟨X, rfl⟩
                go_wp2_with fail
                refine wp_region_ext_tail 14 (by kernel_rfl) (by kernel_rfl) ?_
                simp only [List.take_succ_cons, List.take_zero, List.drop_succ_cons, List.drop_zero]
                repeat (go_big_quiet_step (fail))
                refine wpQuiet_nil ?_
                rintro _ ⟨X, rfl⟩
                go_wp2_with fail
                go_roundw
                case rel => exact ⟨k2 + 1, by omega, by go_num, Lib.hid (by rw [HNX.out, push_snoc, if_pos (by omega), List.length_append, ← spanCs_set, Int.max_eq_right (by omega)]; exact ((ownsRow_exts HO.out exq).stored _ _).1), exq⟩
                case measure => simp [intOf]; omega
              · go_wp2_with fail
                refine wp_region_ext (by kernel_rfl) (by kernel_rfl) ?_
                repeat (go_big_quiet_step (fail))
                refine wpQuiet_nil ?_
                rintro _ ⟨X, rfl⟩
                go_wp2_with fail
                refine wp_region_ext_tail 14 (by kernel_rfl) (by kernel_rfl) ?_
                simp only [List.take_succ_cons, List.take_zero, List.drop_succ_cons, List.drop_zero]
                repeat (go_big_quiet_step (fail))
                refine wpQuiet_nil ?_
                rintro _ ⟨X, rfl⟩
                go_wp2_with fail
                go_roundw
                case rel => exact ⟨k2 + 1, by omega, by go_num, Lib.hid (by rw [HNX.out, push_snoc, if_pos (by omega), List.length_append, ← spanCs_set, Int.max_eq_left (by omega)]; exact ((ownsRow_exts HO.out exq).stored _ _).1), exq⟩
                case measure => simp [intOf]; omega
        · have hkn2 : k2 = ys.length := by omega
          have hO := HO.out
          rw [hkn2, List.take_length, HFIN.out] at hO
          have HO3 := Lib.hid hO
          clear hO
          clear hkn2
          go_wp2_with fail
          go_ret
          exact ⟨_, rfl, row_spans HO3.out, exq, RowT.of_owns HO3.out, fun b hb => Nat.le_trans (World.Exts.size (World.Exts.refl w |>.ext X2)) (HO3.out.lt b hb).1⟩
end Go.Proofs.YtcickafaomfbmaaGreatDoor

/-
  Walks of package scale: all truths of a scale with loads: a range over the iterator.
-/
namespace Go.Proofs.YtcickafaomfbmaaGreatDoor
open Go.RowKit Go.Shelf Kr

attribute [local go_sem] Oper.semAt_some

theorem elem_truth : ElemOf Tryz.prog 162 204 (.agg #[.int .i64 0, .int .i64 0, .int .i64 0, .int .i64 0]) 4 32 := ⟨Tryz.underlying162, by kernel_rfl, rfl, by decide, by decide⟩
theorem not_own {W : World} {B : Nat} {cs : Array Value} {t e : TypeId} {base size k : Nat} {v : Value} {xs : List Value} (h : W.heap[B]? = some (.cells cs t (0, 0))) (hte : t ≠ e) (hr : W.ownsRow base e size v k xs) : some B ≠ v.ownBlock := by
  intro hb
  rcases hr.2 with ⟨rfl, _⟩ | ⟨g, cap, cur, rfl, _, hg, _⟩
  · simp [Value.ownBlock] at hb
  · simp [Value.ownBlock] at hb
    subst hb
    rw [h] at hg
    simp at hg
    exact hte hg.2

/-- What lies in a world in which truths are gathered: the box of all of them, the iterator's scale, the tune. -/
structure TruthsAt (V W : World) (l : List Part) (cs ct : Array Value) (Bx : Nat) : Prop where
  below : Below V.heap.size V W
  row : ∃ v, Boxed W V.heap.size 162 v ∧ W.ownsRow V.heap.size 204 4 v l.length (partCs l) ∧ True
  own : W.heap[V.heap.size + 1]? = some (.cells cs 110 (0, 0))
  tune : W.heap[Bx]? = some (.cells ct 210 (0, 0))
theorem TruthsAt.mono {V W W' : World} {l : List Part} {cs ct : Array Value} {Bx : Nat} (h : TruthsAt V W l cs ct Bx) (hE : W.Exts W') : TruthsAt V W' l cs ct Bx := by
  have hb := hE.below
  have hk : ∀ k o, W.heap[k]? = some o → W'.heap[k]? = some o := fun k o hk => (hb.block k (Array.getElem?_eq_some_iff.1 hk).1).trans hk
  obtain ⟨v, h1, h2, _⟩ := h.row
  exact ⟨h.below.trans (hb.mono h.below.size), ⟨v, hk _ _ h1, ownsRow_exts h2 hE, trivial⟩, hk _ _ h.own, hk _ _ h.tune⟩

theorem TruthsAt.grow {V W w1 : World} {l : List Part} {cs ct : Array Value} {Bx : Nat} {v v' : Value} {tmp : Obj} (x : Part) (h : TruthsAt V W l cs ct Bx) (hv : Boxed W V.heap.size 162 v) (hrow : W.ownsRow V.heap.size 204 4 v l.length (partCs l))
    (hown' : w1.ownsRow V.heap.size 204 4 v' (l.length + 1) (partCs l ++ [.int .i64 x.gain, .int .i64 x.off, .int .i64 x.sum.lo, .int .i64 x.sum.hi])) (hgrow : (W.alloc tmp).grownBy w1 v.ownBlock) (hBx : V.heap.size < Bx) :
    Boxed w1 V.heap.size 162 v ∧ KeepsOthers W (w1.setCell ⟨V.heap.size, 0, none⟩ v') ∧ TruthsAt V (w1.setCell ⟨V.heap.size, 0, none⟩ v') (l ++ [x]) cs ct Bx := by
  obtain ⟨hv1, hv2, hr2, hk2, hb2⟩ := hv.appended (by decide) hrow h.below.size (Nat.le_refl _) hown' hgrow
  have hlt := (Array.getElem?_eq_some_iff.1 h.own).1
  have hlt2 := (Array.getElem?_eq_some_iff.1 h.tune).1
  refine ⟨hv1, hk2, h.below.trans hb2, ⟨v', hv2, by simpa [partCs] using hr2, trivial⟩, ?_, ?_⟩
  · rw [World.heap_set_other _ _ _ (by simp), hgrow.block _ (by simp; omega) (not_own h.own (by decide) hrow), Below.heap_alloc _ _ _ hlt]
    exact h.own
  · rw [World.heap_set_other _ _ _ (by dsimp only; omega), hgrow.block _ (by simp; omega) (not_own h.tune (by decide) hrow), Below.heap_alloc _ _ _ hlt2]
    exact h.tune
theorem below_of {V W W' : World} (h : Below V.heap.size V W) (k : Below V.heap.size V W') (hs : W.heap.size ≤ W'.heap.size) : Below V.heap.size W W' :=
  ⟨k.os.trans h.os.symm, k.tape.trans h.tape.symm, k.output.trans h.output.symm, hs, fun i hi => (k.block i hi).trans (h.block i hi).symm⟩

set_option maxRecDepth 100000 in
set_option maxHeartbeats 4000000 in
theorem scale_truths_in (s : Scale) (tv : Value) (g : Gear) (lv rv sv : Value) (w : World) (hrow : IsRow (fun t : Kr.Trial => [.int .i64 t.weight, .int .i64 t.shown]) 2 w tv s.trials) (hr : right s = true) (hg : GearAt w (g, lv, rv, sv)) (h6 : g.loads.length ≤ 6)
    (hsh : ∀ l ∈ g.loads, l.scale = s.id → -2000000 ≤ l.shown ∧ l.shown ≤ 2000000) :
    CallsIn Fence.wide 3 Tryz.prog 93 #[.agg #[.int .i64 s.id, .int .i64 s.step, .int .i64 s.gain.lo, .int .i64 s.gain.hi, .int .i64 s.off.lo, .int .i64 s.off.hi, tv], .agg #[lv, .int .i64 g.added, .int .i64 g.base, .int .i64 g.jitter, rv, sv, .int .i64 g.spread, .bool g.stamp]] w fun e w' => ∃ v, e = .returned v ∧ IsRow (fun t : Kr.Part => [.int .i64 t.gain, .int .i64 t.off, .int .i64 t.sum.lo, .int .i64 t.sum.hi]) 4 w' v (parts s g.loads) ∧ w.Exts w' := by
  obtain ⟨p, cap, rfl⟩ := hrow.len
  have hl1 := hg.l
  have hl2 := hg.r
  have hl3 := hg.s
  dsimp only at hl1 hl2 hl3
  obtain ⟨p1, b1, o1, cap1, rfl, hm1, hp1, hc1⟩ := hl1.ex
  obtain ⟨p2, cap2, rfl⟩ := hl2.len
  obtain ⟨p3, cap3, rfl⟩ := hl3.len
  obtain ⟨i0, hii, hz0, hz1, hz2⟩ := info_parts elem_truth.inf
  have hst := (right_bounds hr).2.1
  have htb := tunes_bound hr
  have hlen2 := tunesN_len s s.gain.lo (gainN s)
  have hlen3 := gainN_le hr
  have HR := Lib.hid hrow
  clear hrow
  have HOK := Lib.hid hr
  clear hr
  have HC1 := Lib.hid hc1
  clear hc1
  have HP1 := Lib.hid hp1
  clear hp1
  have HSH := Lib.hid hsh
  clear hsh
  have HTB := Lib.hid htb
  clear htb
  clear hg hl1 hl2 hl3
  refine callsIn_of_wp_marks Tryz.func93 rfl trivial ?_ rfl
  simp only [Tryz.ntmps93, List.size_toArray, List.length_cons, List.length_nil, Nat.reduceAdd, Nat.reduceSub, Array.replicate_succ, Array.replicate_zero, List.push_toArray, List.append_toArray, List.nil_append, List.cons_append]
  gi_wp2_with (refine ⟨trivial, ?_⟩; gi_at_call 129; refine (callsIn_wide.2 (scale_tunes_any s _ _ (HR.out.mono exq))).mono ?_; rintro e w' ⟨rfl, rfl⟩)
  have hEV : w.Exts ((w.alloc (.cells #[.int .i64 s.id, .int .i64 s.step, .int .i64 s.gain.lo, .int .i64 s.gain.hi, .int .i64 s.off.lo, .int .i64 s.off.hi, .slice p s.trials.length cap] 110)).alloc (.cells #[.slice p1 g.loads.length cap1, .int .i64 g.added, .int .i64 g.base, .int .i64 g.jitter, .slice p2 g.runners.length cap2, .slice p3 g.strokes.length cap3, .int .i64 g.spread, .bool g.stamp] 55)) := exq
  have k0 : ((w.alloc (.cells #[.int .i64 s.id, .int .i64 s.step, .int .i64 s.gain.lo, .int .i64 s.gain.hi, .int .i64 s.off.lo, .int .i64 s.off.hi, .slice p s.trials.length cap] 110)).alloc (.cells #[.slice p1 g.loads.length cap1, .int .i64 g.added, .int .i64 g.base, .int .i64 g.jitter, .slice p2 g.runners.length cap2, .slice p3 g.strokes.length cap3, .int .i64 g.spread, .bool g.stamp] 55)).heap[w.heap.size]? = some (.cells #[.int .i64 s.id, .int .i64 s.step, .int .i64 s.gain.lo, .int .i64 s.gain.hi, .int .i64 s.off.lo, .int .i64 s.off.hi, .slice p s.trials.length cap] 110 (0, 0)) := by
    rw [Below.heap_alloc _ _ _ (by simp)]; exact World.alloc_heap_new w _
  have m0 : ((w.alloc (.cells #[.int .i64 s.id, .int .i64 s.step, .int .i64 s.gain.lo, .int .i64 s.gain.hi, .int .i64 s.off.lo, .int .i64 s.off.hi, .slice p s.trials.length cap] 110)).alloc (.cells #[.slice p1 g.loads.length cap1, .int .i64 g.added, .int .i64 g.base, .int .i64 g.jitter, .slice p2 g.runners.length cap2, .slice p3 g.strokes.length cap3, .int .i64 g.spread, .bool g.stamp] 55)).cell? ⟨w.heap.size + 1, 0, none⟩ = some (.slice p1 g.loads.length cap1) := by simp [go_sem]
  have hrow3 := HR.out.mono hEV
  have hVe : ((w.alloc (.cells #[.int .i64 s.id, .int .i64 s.step, .int .i64 s.gain.lo, .int .i64 s.gain.hi, .int .i64 s.off.lo, .int .i64 s.off.hi, .slice p s.trials.length cap] 110)).alloc (.cells #[.slice p1 g.loads.length cap1, .int .i64 g.added, .int .i64 g.base, .int .i64 g.jitter, .slice p2 g.runners.length cap2, .slice p3 g.strokes.length cap3, .int .i64 g.spread, .bool g.stamp] 55)).heap.size = w.heap.size + 1 + 1 := by simp
  generalize ((w.alloc (.cells #[.int .i64 s.id, .int .i64 s.step, .int .i64 s.gain.lo, .int .i64 s.gain.hi, .int .i64 s.off.lo, .int .i64 s.off.hi, .slice p s.trials.length cap] 110)).alloc (.cells #[.slice p1 g.loads.length cap1, .int .i64 g.added, .int .i64 g.base, .int .i64 g.jitter, .slice p2 g.runners.length cap2, .slice p3 g.strokes.length cap3, .int .i64 g.spread, .bool g.stamp] 55)) = V at *
  have hVs : w.heap.size < V.heap.size := (Array.getElem?_eq_some_iff.1 k0).1
  have K0 := Lib.hid k0
  clear k0
  rw [← hVe]
  clear hVe
  refine wpIn_range_box (enc := fun x : TuneB => .agg #[.int .i64 x.1.gain, .int .i64 x.1.off.lo, .int .i64 x.1.off.hi]) (by omega) (gf := 161) (lb := #[.pointer (some ⟨V.heap.size + 1, 0, none⟩)]) rfl (enters_of Tryz.func161 (by kernel_rfl) rfl)
    (scale_tunes_1_stops 2 s _ (V.heap.size + 1) V _ HOK.out exq (by have h := World.alloc_heap_new (V.alloc (.cells #[.slice none 0 0] 162)) (.cells #[.int .i64 s.id, .int .i64 s.step, .int .i64 s.gain.lo, .int .i64 s.gain.hi, .int .i64 s.off.lo, .int .i64 s.off.hi, .slice p s.trials.length cap] 110); simpa using h) hrow3)
    (fun h k => h.trans k) (KeepsScale.put (by simp; omega) (by simp))
    (fun pre W => Below V.heap.size V W ∧ (∃ v, Boxed W V.heap.size 162 v ∧ W.ownsRow V.heap.size 204 4 v (partsL s g.loads (tvals pre)).length (partCs (partsL s g.loads (tvals pre))) ∧ True) ∧ W.heap[V.heap.size + 1]? = some (.cells #[.int .i64 s.id, .int .i64 s.step, .int .i64 s.gain.lo, .int .i64 s.gain.hi, .int .i64 s.off.lo, .int .i64 s.off.hi, .slice p s.trials.length cap] 110 (0, 0)))
    (fun _ _ _ => False)
    ?hI (fun _ _ _ _ _ hs _ _ => hs) ?h0 6 (V.heap.size + 1) 210 (fun x => [.int .i64 x.1.gain, .int .i64 x.1.off.lo, .int .i64 x.1.off.hi]) ?assign ?body ?done ?stop
  case hI =>
    exact OwnFrom.and (ownFrom_below (Nat.le_refl _) (by simp; omega)) (OwnFrom.and (Own.from (holdsRow_own V.heap.size V.heap.size 162 204 4 (fun pre : List TuneB => (partsL s g.loads (tvals pre)).length) (fun pre => partCs (partsL s g.loads (tvals pre))) (fun _ _ => True)) _)
      (Own.from (block_own _ (fun _ => .cells #[.int .i64 s.id, .int .i64 s.step, .int .i64 s.gain.lo, .int .i64 s.gain.hi, .int .i64 s.off.lo, .int .i64 s.off.hi, .slice p s.trials.length cap] 110 (0, 0)) (fun _ => rfl)) _))
  case h0 =>
    refine ⟨World.Exts.below exq, ⟨_, (Boxed.new V 162 (.slice none 0 0)).alloc _, World.ownsRow_nil _ _ _ _, trivial⟩, ?_⟩
    have h := World.alloc_heap_new (V.alloc (.cells #[.slice none 0 0] 162)) (.cells #[.int .i64 s.id, .int .i64 s.step, .int .i64 s.gain.lo, .int .i64 s.gain.hi, .int .i64 s.off.lo, .int .i64 s.off.hi, .slice p s.trials.length cap] 110)
    simpa using h
  case assign =>
    rintro l pre x W K ⟨hB, ⟨v, hv, hrow, -⟩, hs⟩ hK
    have hsz := (Array.getElem?_eq_some_iff.1 hs).1
    gi_wp2
    exact hK W.heap.size _ ((KeepsOthers.alloc _ _).from _) (KeepsScale.of_exts hB.size ((World.Exts.refl W).alloc _)) ⟨hB.alloc hB.size _, ⟨v, hv.alloc _, hrow.alloc _, trivial⟩, (Below.heap_alloc _ _ _ (by omega)).trans hs⟩ hsz (World.alloc_heap_new W _)
  case body =>
    rintro l pre x Bx W hl ⟨hB, hrowX, hs⟩ hBx hbx hlen
    have HT : TruthsAt V W (partsL s g.loads (tvals pre)) #[.int .i64 s.id, .int .i64 s.step, .int .i64 s.gain.lo, .int .i64 s.gain.hi, .int .i64 s.off.lo, .int .i64 s.off.hi, .slice p s.trials.length cap] #[.int .i64 x.1.gain, .int .i64 x.1.off.lo, .int .i64 x.1.off.hi] Bx := ⟨hB, hrowX, hs, hbx⟩
    obtain ⟨hxg, hxo1, hxo2⟩ := x.2
    have kk0 := cells_block (cs := [.int .i64 s.id, .int .i64 s.step, .int .i64 s.gain.lo, .int .i64 s.gain.hi, .int .i64 s.off.lo, .int .i64 s.off.hi, .slice p s.trials.length cap]) K0.out 0 _ rfl
    have kk1 := cells_block (cs := [.int .i64 s.id, .int .i64 s.step, .int .i64 s.gain.lo, .int .i64 s.gain.hi, .int .i64 s.off.lo, .int .i64 s.off.hi, .slice p s.trials.length cap]) K0.out 1 _ rfl
    have kk2 := cells_block (cs := [.int .i64 s.id, .int .i64 s.step, .int .i64 s.gain.lo, .int .i64 s.gain.hi, .int .i64 s.off.lo, .int .i64 s.off.hi, .slice p s.trials.length cap]) K0.out 2 _ rfl
    have kk3 := cells_block (cs := [.int .i64 s.id, .int .i64 s.step, .int .i64 s.gain.lo, .int .i64 s.gain.hi, .int .i64 s.off.lo, .int .i64 s.off.hi, .slice p s.trials.length cap]) K0.out 3 _ rfl
    have kk4 := cells_block (cs := [.int .i64 s.id, .int .i64 s.step, .int .i64 s.gain.lo, .int .i64 s.gain.hi, .int .i64 s.off.lo, .int .i64 s.off.hi, .slice p s.trials.length cap]) K0.out 4 _ rfl
    have kk5 := cells_block (cs := [.int .i64 s.id, .int .i64 s.step, .int .i64 s.gain.lo, .int .i64 s.gain.hi, .int .i64 s.off.lo, .int .i64 s.off.hi, .slice p s.trials.length cap]) K0.out 5 _ rfl
    have kk6 := cells_block (cs := [.int .i64 s.id, .int .i64 s.step, .int .i64 s.gain.lo, .int .i64 s.gain.hi, .int .i64 s.off.lo, .int .i64 s.off.hi, .slice p s.trials.length cap]) K0.out 6 _ rfl
    haveI := Lays.of_cell kk0
    haveI := Lays.of_cell m0
    have hWs : ∀ W', TruthsAt V W' (partsL s g.loads (tvals pre)) #[.int .i64 s.id, .int .i64 s.step, .int .i64 s.gain.lo, .int .i64 s.gain.hi, .int .i64 s.off.lo, .int .i64 s.off.hi, .slice p s.trials.length cap] #[.int .i64 x.1.gain, .int .i64 x.1.off.lo, .int .i64 x.1.off.hi] Bx → True := fun _ _ => trivial
    clear hWs hrowX hs
    obtain ⟨XW, rfl⟩ : ∃ X : Ext V, W = V.ext X := ⟨⟨W, hB⟩, rfl⟩
    have x0 := cells_block (cs := [.int .i64 x.1.gain, .int .i64 x.1.off.lo, .int .i64 x.1.off.hi]) hbx 0 _ rfl
    have x1 := cells_block (cs := [.int .i64 x.1.gain, .int .i64 x.1.off.lo, .int .i64 x.1.off.hi]) hbx 1 _ rfl
    have HTT := Lib.hid HT
    clear HT
    have HBV := Lib.hid hB
    clear hB
    clear hbx
    dsimp only [Act.put]
    gi_wp2
    refine wpIn_scope ?_
    gi_wp2
    refine wpIn_label ?_
    gi_wp2
    gi_loopw [7] (fun off wr => ∃ m : Nat, m ≤ offN x.1 ∧ off = .int .i64 (x.1.off.lo + m) ∧ Hid (TruthsAt V wr (partsL s g.loads (tvals pre) ++ partsN s g.loads x.1.gain x.1.off.lo m) #[.int .i64 s.id, .int .i64 s.step, .int .i64 s.gain.lo, .int .i64 s.gain.hi, .int .i64 s.off.lo, .int .i64 s.off.hi, .slice p s.trials.length cap] #[.int .i64 x.1.gain, .int .i64 x.1.off.lo, .int .i64 x.1.off.hi] Bx) ∧ Hid (KeepsOthers (V.ext XW) wr)) (fun off _ => (x.1.off.hi + 1 - intOf off).toNat)
    case atStart => exact ⟨0, Nat.zero_le _, congrArg (Value.int .i64) (by omega), Lib.hid (by simpa [partsN] using HTT.out), Lib.hid (KeepsOthers.refl _)⟩
    case round =>
      obtain ⟨m, hm, rfl, HT2, HK2⟩ := hrel
      obtain ⟨X2, rfl⟩ : ∃ X : Ext V, wr = V.ext X := ⟨⟨_, HT2.out.below⟩, rfl⟩
      have y0 := cells_block (cs := [.int .i64 x.1.gain, .int .i64 x.1.off.lo, .int .i64 x.1.off.hi]) HT2.out.tune 0 _ rfl
      have y1 := cells_block (cs := [.int .i64 x.1.gain, .int .i64 x.1.off.lo, .int .i64 x.1.off.hi]) HT2.out.tune 1 _ rfl
      have y2 := cells_block (cs := [.int .i64 x.1.gain, .int .i64 x.1.off.lo, .int .i64 x.1.off.hi]) HT2.out.tune 2 _ rfl
      haveI := Lays.of_cell y0
      by_cases hlt2 : x.1.off.lo + m ≤ x.1.off.hi
      · gi_wp2
        gi_loopw [33] (fun kk wr => ∃ (j : Nat) (lo hi : Int), j ≤ g.loads.length ∧ kk = .int .i64 j ∧ Hid ((g.loads.take j).foldl (addLoad s x.1.gain (x.1.off.lo + m)) (some ⟨0, 0⟩) = some ⟨lo, hi⟩) ∧ (0 ≤ lo ∧ lo ≤ 1000000 * j) ∧ (0 ≤ hi ∧ hi ≤ 1000000 * j) ∧ (World.ext _ X2).Exts wr ∧ Lays wr (World.ext _ X2).heap.size ∧
          wr.cell? ⟨(World.ext _ X2).heap.size, 0, none⟩ = some (.int .i64 x.1.gain) ∧ wr.cell? ⟨(World.ext _ X2).heap.size, 1, none⟩ = some (.int .i64 (x.1.off.lo + m)) ∧ wr.cell? ⟨(World.ext _ X2).heap.size, 2, none⟩ = some (.int .i64 lo) ∧ wr.cell? ⟨(World.ext _ X2).heap.size, 3, none⟩ = some (.int .i64 hi) ∧
          wr.frozen? ⟨(World.ext _ X2).heap.size, 2, none⟩ = false ∧ wr.frozen? ⟨(World.ext _ X2).heap.size, 3, none⟩ = false) (fun kk _ => g.loads.length - (intOf kk).toNat)
        case atStart => exact ⟨0, 0, 0, Nat.zero_le _, rfl, rfl, by omega, by omega, exq, lays_new _ _, by simp, by simp, by simp, by simp, by simp, by simp⟩
        case round =>
          obtain ⟨j, lo, hi, hj, rfl, HF, hlo, hhi, hE4, hlay, e0, e1, e2, e3, f2, f3⟩ := hrel
          obtain ⟨X4, rfl⟩ := hE4
          by_cases hlt3 : j < g.loads.length
          · obtain ⟨rfl, hlp1⟩ := HP1.out (by omega)
            obtain ⟨ld, hld⟩ := some_of_lt hlt3
            have hcl := HC1.out j ld hld
            have a0 := hEV.cell (hcl 0 _ rfl)
            have a1 := hEV.cell (hcl 1 _ rfl)
            simp only [Nat.add_zero] at a0 a1
            haveI := Lays.of_cell a0
            have hsn := fold_snoc (s := s) (gain := x.1.gain) (off := x.1.off.lo + m) hld (some ⟨0, 0⟩)
            rw [HF.out] at hsn
            have hdead : (g.loads.take (j + 1)).foldl (addLoad s x.1.gain (x.1.off.lo + m)) (some ⟨0, 0⟩) = none → g.loads.foldl (addLoad s x.1.gain (x.1.off.lo + m)) (some ⟨0, 0⟩) = none := fun h => by
              rw [← List.take_append_drop (j + 1) g.loads, List.foldl_append, h, addLoad_none]
            have hshown := HSH.out ld (List.mem_of_getElem? hld)
            have HSN := Lib.hid hsn
            clear hsn
            have HDEAD := Lib.hid hdead
            clear hdead
            clear hcl hld HP1
            cases hq : ld.scale == s.id
            · have hq2 : (ld.scale != s.id) = true := by simp [bne, hq]
              have hnx := HSN.out
              rw [addLoad_other hq] at hnx
              have HNX := Lib.hid hnx
              clear hnx
              clear hq hshown
              gi_wp2
              go_roundw
              case rel => exact ⟨j + 1, lo, hi, by omega, by go_num, Lib.hid HNX.out, by omega, by omega, exq, inferInstance, by simp [go_sem, e0], by simp [go_sem, e1], by simp [go_sem, e2], by simp [go_sem, e3], by simp [go_sem, f2], by simp [go_sem, f3]⟩
              case measure => simp [intOf]; omega
            · have hq2 : (ld.scale != s.id) = false := by simp [bne, hq]
              have hsb := hshown (by simpa using hq)
              have hwb := wt_bound s.step x.1.gain (x.1.off.lo + m) ld.shown
              have hyes : (wt s.step x.1.gain (x.1.off.lo + m) ld.shown).lo ≤ (wt s.step x.1.gain (x.1.off.lo + m) ld.shown).hi → (g.loads.take (j + 1)).foldl (addLoad s x.1.gain (x.1.off.lo + m)) (some ⟨0, 0⟩) = some ⟨lo + (wt s.step x.1.gain (x.1.off.lo + m) ld.shown).lo, hi + (wt s.step x.1.gain (x.1.off.lo + m) ld.shown).hi⟩ := fun h2 => by
                rw [HSN.out]; unfold addLoad; rw [if_pos (by simpa using hq)]; simp only; rw [if_pos h2]
              have hno : (wt s.step x.1.gain (x.1.off.lo + m) ld.shown).hi < (wt s.step x.1.gain (x.1.off.lo + m) ld.shown).lo → partsN s g.loads x.1.gain x.1.off.lo (m + 1) = partsN s g.loads x.1.gain x.1.off.lo m := fun h2 => by
                refine parts_no (HDEAD.out ?_)
                rw [HSN.out]; unfold addLoad; rw [if_pos (by simpa using hq)]; simp only; rw [if_neg (by omega)]
              generalize hwr : wt s.step x.1.gain (x.1.off.lo + m) ld.shown = y at hwb hyes hno
              have HWR := Lib.hid hwr
              clear hwr
              have HYES := Lib.hid hyes
              clear hyes
              have HNO := Lib.hid hno
              clear hno
              clear hq hshown
              rcases Int.lt_or_le y.hi y.lo with hx | hx
              · gi_wp2_with (refine ⟨trivial, ?_⟩; gi_at_call 130; refine (callsIn_wide.2 (scale_weights_any s _ _ _ _ _ hst hxg (by omega) hsb)).mono ?_; rw [HWR.out]; rintro e w' ⟨rfl, X5, rfl⟩)
                go_roundw
                case rel => exact ⟨m + 1, by unfold offN; omega, congrArg (Value.int .i64) (by omega), Lib.hid (by rw [HNO.out hx]; exact HT2.out.mono exq), Lib.hid (HK2.out.trans (KeepsOthers.of_exts exq))⟩
                case measure => simp [intOf]; omega
              · gi_wp2_with (refine ⟨trivial, ?_⟩; gi_at_call 130; refine (callsIn_wide.2 (scale_weights_any s _ _ _ _ _ hst hxg (by omega) hsb)).mono ?_; rw [HWR.out]; rintro e w' ⟨rfl, X5, rfl⟩)
                go_roundw
                case rel => exact ⟨j + 1, lo + y.lo, hi + y.hi, by omega, by go_num, Lib.hid (HYES.out hx), by omega, by omega, exq, inferInstance, by simp [go_sem, e0], by simp [go_sem, e1], by simp [go_sem, e2], by simp [go_sem, e3], by simp [go_sem, f2], by simp [go_sem, f3]⟩
                case measure => simp [intOf]; omega
          · have hjn : j = g.loads.length := by omega
            have hF := HF.out
            rw [hjn, List.take_length] at hF
            have HF2 := Lib.hid hF
            clear hF
            clear hjn
            have hnx := parts_yes HF2.out
            have HNX := Lib.hid hnx
            clear hnx
            have hT4 := HT2.out.mono (W' := World.ext _ X4) exq
            obtain ⟨v, hv, hrw, -⟩ := hT4.row
            have hc := hv.cell
            have hBs := hT4.below.size
            have hlen4 : (partsL s g.loads (tvals pre) ++ partsN s g.loads x.1.gain x.1.off.lo m).length ≤ 1000000 := by
              have h1 := partsL_len s g.loads (tvals pre) (fun t ht => by obtain ⟨y, _, rfl⟩ := List.mem_map.1 ht; have := y.2; omega)
              have h2 := partsN_len s g.loads x.1.gain x.1.off.lo m
              have h3 : offN x.1 ≤ 201 := by unfold offN; omega
              have h4 : (tvals pre).length = pre.length := by simp [tvals]
              rw [List.length_append]; omega
            have hnew : ∀ (i : Nat) (u : Value), ([.int .i64 x.1.gain, .int .i64 (x.1.off.lo + m), .int .i64 lo, .int .i64 hi] : List Value)[i]? = some u → ((World.ext _ X4).alloc (.cells #[.int .i64 x.1.gain, .int .i64 (x.1.off.lo + m), .int .i64 lo, .int .i64 hi] 204)).cell? ((⟨(World.ext _ X4).heap.size, 0, none⟩ : Addr).add i) = some u := by
              intro i u hj
              rw [show (⟨(World.ext _ X4).heap.size, 0, none⟩ : Addr).add i = ⟨(World.ext _ X4).heap.size, i, none⟩ from by unfold Addr.add; split <;> simp_all]
              rw [World.cell?_alloc_new]
              simpa using hj
            have hone : ∀ u ∈ ([.int .i64 x.1.gain, .int .i64 (x.1.off.lo + m), .int .i64 lo, .int .i64 hi] : List Value), u.oneCell' = true := by intro u hu; simp at hu; rcases hu with rfl | rfl | rfl | rfl <;> rfl
            generalize hL : partsL s g.loads (tvals pre) ++ partsN s g.loads x.1.gain x.1.off.lo m = L at hT4 hrw hlen4
            have HL := Lib.hid hL
            clear hL
            have HT4 := Lib.hid hT4
            clear hT4
            have HNEW := Lib.hid hnew
            clear hnew
            have HONE := Lib.hid hone
            clear hone
            have HV := Lib.hid hv
            clear hv
            have HRW := Lib.hid hrw
            clear hrw
            gi_wp2_with (gi_at_builtin; refine wpListIn_append_own _ rfl _ _ 162 rfl V.heap.size 204 i0 (.agg #[.int .i64 0, .int .i64 0, .int .i64 0, .int .i64 0]) 4 32 Tryz.underlying162 hii hz0 hz1 hz2 rfl (by decide) _ _ _ rfl (HRW.out.alloc _) ⟨(World.ext _ X4).heap.size, 0, none⟩ 1 1 [.int .i64 x.1.gain, .int .i64 (x.1.off.lo + m), .int .i64 lo, .int .i64 hi] rfl rfl HNEW.out HONE.out (by unfold maxLen; omega) (by omega) (by simp; omega) ?_; intro v' w1 hown' hgrow _; obtain ⟨g', cap', rfl⟩ := ownsRow_succ hown'; obtain ⟨hv1, hk5, hT5⟩ := HT4.out.grow ⟨x.1.gain, x.1.off.lo + m, ⟨lo, hi⟩⟩ HV.out HRW.out hown' hgrow (by omega); have hc1 := hv1.cell; have hf1 := hv1.frozen; have HT5 := Lib.hid hT5; have HK5 := Lib.hid hk5; clear hT5 hk5 hv1 hown' hgrow)
            go_roundw
            case rel => exact ⟨m + 1, by unfold offN; omega, congrArg (Value.int .i64) (by omega), Lib.hid (by rw [HNX.out, ← List.append_assoc, HL.out]; exact HT5.out), Lib.hid ((HK2.out.trans (KeepsOthers.of_exts exq)).trans HK5.out)⟩
            case measure => simp [intOf]; omega
      · have hmn : m = offN x.1 := by unfold offN at hm ⊢; omega
        have hT := HT2.out
        have hfin : partsL s g.loads (tvals pre) ++ partsN s g.loads x.1.gain x.1.off.lo (offN x.1) = partsL s g.loads (tvals (pre ++ [x])) := by
          rw [tvals_snoc]; unfold partsL; rw [List.flatMap_append]; simp [partsT]
        rw [hmn, hfin] at hT
        have HT3 := Lib.hid hT
        clear hT
        clear hmn hfin
        gi_wp2
        obtain ⟨v, hv, hrw, -⟩ := HT3.out.row
        refine ⟨HK2.out.from _, ⟨below_of HBV.out HT3.out.below HK2.out.size, fun _ => ?_⟩, HT3.out.below, ⟨v, hv, hrw, trivial⟩, HT3.out.own⟩
        exact HT3.out.own.trans HTT.out.own.symm
  case done =>
    rintro D ys W hD hS ⟨hB, ⟨v, hv, hrow, -⟩, hs⟩ hK
    have hS2 : tvals ys = tunes s := hS
    rw [hS2] at hrow
    have hc := hv.cell
    gi_wp2
    refine ⟨by simp, .inl ⟨_, _, rfl, run_takeDeferred hK, ?_⟩⟩
    exact ⟨_, results_tmp rfl _ _ _, v, rfl, row_parts (ownsRow_putObj hrow _ hK rfl), .of ((hEV.below.trans (hB.mono hEV.size)).trans (belowK_b (w := w) (Nat.le_refl _) W D _ _ (by simp at hD; omega) hK rfl rfl))⟩
  case stop =>
    rintro D c pre W _ _ h _
    exact h.elim
theorem scale_truths_any (s : Scale) (tv : Value) (g : Gear) (lv rv sv : Value) (w : World) (hrow : IsRow (fun t : Kr.Trial => [.int .i64 t.weight, .int .i64 t.shown]) 2 w tv s.trials) (hr : right s = true) (hg : GearAt w (g, lv, rv, sv)) (h6 : g.loads.length ≤ 6)
    (hsh : ∀ l ∈ g.loads, l.scale = s.id → -2000000 ≤ l.shown ∧ l.shown ≤ 2000000) :
    Calls Tryz.prog 93 #[.agg #[.int .i64 s.id, .int .i64 s.step, .int .i64 s.gain.lo, .int .i64 s.gain.hi, .int .i64 s.off.lo, .int .i64 s.off.hi, tv], .agg #[lv, .int .i64 g.added, .int .i64 g.base, .int .i64 g.jitter, rv, sv, .int .i64 g.spread, .bool g.stamp]] w fun e w' => ∃ v, e = .returned v ∧ IsRow (fun t : Kr.Part => [.int .i64 t.gain, .int .i64 t.off, .int .i64 t.sum.lo, .int .i64 t.sum.hi]) 4 w' v (parts s g.loads) ∧ w.Exts w' :=
  callsIn_wide.1 (scale_truths_in s tv g lv rv sv w hrow hr hg h6 hsh)
end Go.Proofs.YtcickafaomfbmaaGreatDoor

/-
  Walks of package scale: slices.Backward at scales and at spans: iterators that yield an index and an element.
-/
namespace Go.Proofs.YtcickafaomfbmaaGreatDoor
open Go.RowKit Go.Shelf Kr
set_option linter.unusedSimpArgs false

attribute [local go_sem] Oper.semAt_some

end Go.Proofs.YtcickafaomfbmaaGreatDoor

/-
  Walks of package scale: the sums of the loads on a scale; all sums of spans.
-/
namespace Go.Proofs.YtcickafaomfbmaaGreatDoor
open Go.RowKit Kr

set_option maxRecDepth 4000 in
set_option maxHeartbeats 4000000 in
theorem scale_merged_truth_own (xs : List Part) (v : Value) (w : World) (hrow : IsRow (fun t : Kr.Part => [.int .i64 t.gain, .int .i64 t.off, .int .i64 t.sum.lo, .int .i64 t.sum.hi]) 4 w v xs) (f : Part → Span) (g : Nat) (eg : ∀ args w, (callFunc g args).run Tryz.prog w = .ok (.enter g args) w)
    (hf : ∀ x ∈ xs, ∀ W, w.Exts W → Calls Tryz.prog g #[(fun t : Kr.Part => .agg #[.int .i64 t.gain, .int .i64 t.off, .int .i64 t.sum.lo, .int .i64 t.sum.hi]) x] W fun e W' => e = .returned (.agg #[.int .i64 (f x).lo, .int .i64 (f x).hi]) ∧ W.Exts W') (hfull : Full (xs.map f)) (hin : Within 0 100000000000 (xs.map f)) (hlen : xs.length ≤ 1000000000000) :
    Calls Tryz.prog 127 #[v, .func (.func g) #[] #[]] w fun e w' => ∃ v', e = .returned v' ∧ IsRow (fun t : Kr.Span => [.int .i64 t.lo, .int .i64 t.hi]) 2 w' v' (merged (xs.map f)) ∧ w.Exts w' ∧ RowT 28 w' v' ∧ RowN w.heap.size v' := by
  obtain ⟨q, b, o, cap, rfl, hm, hq, hc⟩ := hrow.ex
  have HC := Lib.hid hc
  clear hc
  have HQ := Lib.hid hq
  clear hq
  have HF := Lib.hid hf
  clear hf
  have HFULL := Lib.hid hfull
  clear hfull
  have HIN := Lib.hid hin
  clear hin
  clear hrow
  go_enter Tryz.func127, Tryz.ntmps127
  go_wp2_with fail
  go_loopw [5, 14] (fun all i wr => ∃ k : Nat, k ≤ xs.length ∧ i = .int .i64 k ∧ Hid (wr.ownsRow w.heap.size 28 2 all ((xs.take k).map f).length (spanCs ((xs.take k).map f))) ∧ w.Exts wr) (fun _ i _ => xs.length - (intOf i).toNat)
  case atStart => exact ⟨0, Nat.zero_le _, rfl, Lib.hid (World.ownsRow_nil _ _ _ _), World.Exts.refl _⟩
  case round =>
    obtain ⟨k, hk, rfl, HO, hE⟩ := hrel
    obtain ⟨X, rfl⟩ := hE
    by_cases hlt : k < xs.length
    · obtain ⟨rfl, hl⟩ := HQ.out (by omega)
      obtain ⟨x, hx⟩ := some_of_lt hlt
      have hcs := HC.out k x hx
      have c0 := hcs 0 _ rfl
      have c1 := hcs 1 _ rfl
      have c2 := hcs 2 _ rfl
      have c3 := hcs 3 _ rfl
      simp only [Nat.add_zero] at c0 c1 c2 c3
      have hcall := HF.out x (List.mem_of_getElem? hx)
      have hnx : (xs.take (k + 1)).map f = (xs.take k).map f ++ [f x] := by rw [take_snoc hx, List.map_append, List.map_singleton]
      have hlk : ((xs.take k).map f).length = k := by rw [List.length_map, List.length_take]; omega
      have HNX := Lib.hid hnx
      clear hnx
      have HCALL := Lib.hid hcall
      clear hcall
      have HLK := Lib.hid hlk
      clear hlk
      clear hx hcs HQ HC HF
      go_wp2_with (first
        | (go_at_fn g; refine (HCALL.out _ exq).mono ?_; rintro e w' ⟨rfl, X2, rfl⟩)
        | (at_builtin; refine wpList_append1L (.tmp 18) (.tmp 22) elem_Span rfl rfl rfl (ownsRow_exts HO.out exq) [.int .i64 (f x).lo, .int .i64 (f x).hi] _ rfl rfl rfl ?h1 ?h2 ?h4 ?h3 ?_))
      case h1 => exact one_Span _
      case h2 => rw [HLK.out]; omega
      case h4 => decide
      case h3 => exact World.Exts.size exq
      intro v' w' hown' happ
      have hE := happ.exts w exq (Nat.le_refl _)
      have HO3 := Lib.hid hown'
      clear hown'
      have HE := Lib.hid hE
      clear hE
      clear happ
      go_wp2_with fail
      go_roundw
      case rel => exact ⟨k + 1, by omega, by go_num, Lib.hid (by rw [HNX.out, spanCs_snoc, List.length_append, HLK.out]; simpa using HO3.out), HE.out⟩
      case measure => simp [intOf]; omega
    · have hkn : k = xs.length := by omega
      have hO := HO.out
      rw [hkn, List.take_length, List.length_map] at hO
      have HO2 := Lib.hid hO
      clear hO
      clear hkn HO
      go_wp2_with fail
      refine (sort_spans2 w.heap.size _ (xs.map f) _ (by rw [List.length_map]; exact HO2.out) HIN.out HFULL.out (by rw [List.length_map]; exact hlen)).mono ?_
      rintro e w' ⟨rfl, ys, hperm, hbylo, hownS, hexS⟩
      have hEw2 := hexS w exq (Nat.le_refl _)
      have hysl : ys.length = xs.length := by rw [hperm.length_eq, List.length_map]
      have hyf : ∀ s ∈ ys, s.lo ≤ s.hi ∧ 0 ≤ s.lo ∧ s.hi ≤ 100000000000 := fun s hs => ⟨HFULL.out s (hperm.mem_iff.1 hs), (HIN.out s (hperm.mem_iff.1 hs)).1, (HIN.out s (hperm.mem_iff.1 hs)).2⟩
      have hfin := merged_of hperm hbylo HFULL.out
      have hrowS := row_spans (l := ys) (by rw [hysl]; rw [List.length_map] at hownS; exact hownS)
      have hyb : ys.length ≤ 1000000000000 := by rw [hysl]; exact hlen
      have HYSL := Lib.hid hysl
      clear hysl
      have HYF := Lib.hid hyf
      clear hyf
      have HFIN := Lib.hid hfin
      clear hfin
      obtain ⟨qs, bs, os, caps, rfl, hms, hqs, hcss⟩ := hrowS.ex
      have HQS := Lib.hid hqs
      clear hqs
      have HCS := Lib.hid hcss
      clear hcss
      obtain ⟨X2, rfl⟩ := hEw2
      clear hperm hbylo hownS hexS hrowS
      go_wp2_with fail
      go_loopw [8, 29] (fun few i wr => ∃ k : Nat, k ≤ ys.length ∧ i = .int .i64 k ∧ Hid (wr.ownsRow (w.ext X2).heap.size 28 2 few ((ys.take k).foldl push []).length (spanCs ((ys.take k).foldl push []))) ∧ (w.ext X2).Exts wr) (fun _ i _ => ys.length - (intOf i).toNat)
      case atStart => exact ⟨0, Nat.zero_le _, rfl, Lib.hid (World.ownsRow_nil _ _ _ _), exq⟩
      case round =>
        obtain ⟨k2, hk2, rfl, HO, hE⟩ := hrel
        obtain ⟨X, rfl⟩ := hE
        by_cases hlt2 : k2 < ys.length
        · obtain ⟨rfl, hl⟩ := HQS.out (by omega)
          obtain ⟨s, hs⟩ := some_of_lt hlt2
          have hcs := HCS.out k2 s hs
          have c0 := hcs 0 _ rfl
          have c1 := hcs 1 _ rfl
          simp only [Nat.add_zero] at c0 c1
          obtain ⟨hs1, hs2, hs3⟩ := HYF.out s (List.mem_of_getElem? hs)
          have hnx : (ys.take (k2 + 1)).foldl push [] = push ((ys.take k2).foldl push []) s := by rw [take_snoc hs, List.foldl_append]; rfl
          have hfl : ((ys.take k2).foldl push []).length ≤ k2 := by
            have h := push_len (ys.take k2) []
            rw [List.length_take] at h; simp at h; omega
          have hfb : ∀ y ∈ (ys.take k2).foldl push [], 0 ≤ y.hi ∧ y.hi ≤ 100000000000 := fold_hi (fun y hy => by have := HYF.out y (List.mem_of_mem_take hy); omega)
          generalize (ys.take k2).foldl push [] = fs at hnx hfl hfb HO
          have HNX := Lib.hid hnx
          clear hnx
          clear hs hcs HQS HCS HYF
          rcases snoc_cases fs with rfl | ⟨r, kk, rfl⟩
          · obtain ⟨pf, cf, rfl⟩ := owns_len HO.out
            simp only [List.length_nil] at *
            go_wp2_with fail
            refine wp_region_ext (by kernel_rfl) (by kernel_rfl) ?_
            repeat (go_big_quiet_step (fail))
            refine wpQuiet_nil ?_
            rintro _ ⟨X, rfl⟩
            go_wp2_with (at_builtin; refine wpList_append1L (.tmp 63) (.tmp 65) elem_Span rfl rfl rfl (ownsRow_exts HO.out exq) [.int .i64 s.lo, .int .i64 s.hi] _ rfl rfl rfl ?h1 ?h2 ?h4 ?h3 ?_)
            case h1 => exact one_Span _
            case h2 => omega
            case h4 => decide
            case h3 => exact World.Exts.size exq
            intro v' w' hown' happ
            have hE := happ.exts (w.ext X2) exq (Nat.le_refl _)
            have HO3 := Lib.hid hown'
            clear hown'
            have HE := Lib.hid hE
            clear hE
            clear happ
            go_wp2_with fail
            go_roundw
            case rel => exact ⟨k2 + 1, by omega, by go_num, Lib.hid (by rw [HNX.out]; simpa [push_nil, spanCs] using HO3.out), HE.out⟩
            case measure => simp [intOf]; omega
          · obtain ⟨g2, cf, rfl, hbg, hlg⟩ := owns_form HO.out (by simp)
            have hkk := hfb kk (by simp)
            have hlr : (r ++ [kk]).length = r.length + 1 := by simp
            have e1 : (World.ext _ X).cell? ⟨g2, r.length * 2 + 1, none⟩ = some (.int .i64 kk.hi) := by rw [HO.out.cellAt _ (by rw [hlr]; omega)]; exact spanCs_at r kk 1 _ rfl
            have f1 := HO.out.frozenAt (r.length * 2 + 1)
            haveI := Lays.of_cell e1
            rw [hlr] at HO hfl ⊢
            clear hfb hlr
            rcases Int.lt_or_le (kk.hi + 1) s.lo with hc | hc
            · go_wp2_with fail
              refine wp_region_ext (by kernel_rfl) (by kernel_rfl) ?_
              repeat (go_big_quiet_step (fail))
              refine wpQuiet_nil ?_
              rintro _ ⟨X, rfl⟩
              go_wp2_with (at_builtin; refine wpList_append1L (.tmp 63) (.tmp 65) elem_Span rfl rfl rfl (ownsRow_exts HO.out exq) [.int .i64 s.lo, .int .i64 s.hi] _ rfl rfl rfl ?h1 ?h2 ?h4 ?h3 ?_)
              case h1 => exact one_Span _
              case h2 => omega
              case h4 => decide
              case h3 => exact World.Exts.size exq
              intro v' w' hown' happ
              have hE := happ.exts (w.ext X2) exq (Nat.le_refl _)
              have HO3 := Lib.hid hown'
              clear hown'
              have HE := Lib.hid hE
              clear hE
              clear happ
              go_wp2_with fail
              go_roundw
              case rel => exact ⟨k2 + 1, by omega, by go_num, Lib.hid (by rw [HNX.out, push_snoc, if_neg (by omega), spanCs_snoc, List.length_append, List.length_append]; exact HO3.out), HE.out⟩
              case measure => simp [intOf]; omega
            · rcases Int.lt_or_le kk.hi s.hi with hm1 | hm1
              · go_wp2_with fail
                refine wp_region_ext (by kernel_rfl) (by kernel_rfl) ?_
                repeat (go_big_quiet_step (fail))
                refine wpQuiet_nil ?_
                rintro _ ⟨X, rfl⟩
                go_wp2_with fail
                refine wp_region_ext_tail 14 (by kernel_rfl) (by kernel_rfl) ?_
                simp only [List.take_succ_cons, List.take_zero, List.drop_succ_cons, List.drop_zero]
                repeat (go_big_quiet_step (fail))
                refine wpQuiet_nil ?_
                rintro _ ⟨X, rfl⟩
                go_wp2_with fail
                go_roundw
                case rel => exact ⟨k2 + 1, by omega, by go_num, Lib.hid (by rw [HNX.out, push_snoc, if_pos (by omega), List.length_append, ← spanCs_set, Int.max_eq_right (by omega)]; exact ((ownsRow_exts HO.out exq).stored _ _).1), exq⟩
                case measure => simp [intOf]; omega
              · go_wp2_with fail
                refine wp_region_ext (by kernel_rfl) (by kernel_rfl) ?_
                repeat (go_big_quiet_step (fail))
                refine wpQuiet_nil ?_
                rintro _ ⟨X, rfl⟩
                go_wp2_with fail
                refine wp_region_ext_tail 14 (by kernel_rfl) (by kernel_rfl) ?_
                simp only [List.take_succ_cons, List.take_zero, List.drop_succ_cons, List.drop_zero]
                repeat (go_big_quiet_step (fail))
                refine wpQuiet_nil ?_
                rintro _ ⟨X, rfl⟩
                go_wp2_with fail
                go_roundw
                case rel => exact ⟨k2 + 1, by omega, by go_num, Lib.hid (by rw [HNX.out, push_snoc, if_pos (by omega), List.length_append, ← spanCs_set, Int.max_eq_left (by omega)]; exact ((ownsRow_exts HO.out exq).stored _ _).1), exq⟩
                case measure => simp [intOf]; omega
        · have hkn2 : k2 = ys.length := by omega
          have hO := HO.out
          rw [hkn2, List.take_length, HFIN.out] at hO
          have HO3 := Lib.hid hO
          clear hO
          clear hkn2
          go_wp2_with fail
          go_ret
          exact ⟨_, rfl, row_spans HO3.out, exq, RowT.of_owns HO3.out, fun b hb => Nat.le_trans (World.Exts.size (World.Exts.refl w |>.ext X2)) (HO3.out.lt b hb).1⟩
theorem scale_merged_truth_any (xs : List Part) (v : Value) (w : World) (hrow : IsRow (fun t : Kr.Part => [.int .i64 t.gain, .int .i64 t.off, .int .i64 t.sum.lo, .int .i64 t.sum.hi]) 4 w v xs) (f : Part → Span) (g : Nat) (eg : ∀ args w, (callFunc g args).run Tryz.prog w = .ok (.enter g args) w)
    (hf : ∀ x ∈ xs, ∀ W, w.Exts W → Calls Tryz.prog g #[(fun t : Kr.Part => .agg #[.int .i64 t.gain, .int .i64 t.off, .int .i64 t.sum.lo, .int .i64 t.sum.hi]) x] W fun e W' => e = .returned (.agg #[.int .i64 (f x).lo, .int .i64 (f x).hi]) ∧ W.Exts W') (hfull : Full (xs.map f)) (hin : Within 0 100000000000 (xs.map f)) (hlen : xs.length ≤ 1000000000000) :
    Calls Tryz.prog 127 #[v, .func (.func g) #[] #[]] w fun e w' => ∃ v', e = .returned v' ∧ IsRow (fun t : Kr.Span => [.int .i64 t.lo, .int .i64 t.hi]) 2 w' v' (merged (xs.map f)) ∧ w.Exts w' :=
  (scale_merged_truth_own xs v w hrow f g eg hf hfull hin hlen).mono fun _ _ ⟨v', h1, h2, h3, _⟩ => ⟨v', h1, h2, h3⟩

set_option maxHeartbeats 400000 in
theorem scale_itself_any (s : Span) (w : World) : Calls Tryz.prog 126 #[.agg #[.int .i64 s.lo, .int .i64 s.hi]] w fun e w' => e = .returned (.agg #[.int .i64 s.lo, .int .i64 s.hi]) ∧ w.Exts w' := by
  go_enter Tryz.func126, Tryz.ntmps126
  go_wp2_with fail
  refine bodyPost_ret (v := .agg #[.int .i64 s.lo, .int .i64 s.hi]) (by simp [results, Tryz.results126, go_sem]) rfl ?_
  exact ⟨rfl, exq⟩
set_option maxHeartbeats 400000 in
theorem scale_sums_1_any (x : Part) (w : World) : Calls Tryz.prog 128 #[.agg #[.int .i64 x.gain, .int .i64 x.off, .int .i64 x.sum.lo, .int .i64 x.sum.hi]] w fun e w' => e = .returned (.agg #[.int .i64 x.sum.lo, .int .i64 x.sum.hi]) ∧ w.Exts w' := by
  go_enter Tryz.func128, Tryz.ntmps128
  go_wp2_with fail
  refine bodyPost_ret (v := .agg #[.int .i64 x.sum.lo, .int .i64 x.sum.hi]) (by simp [results, Tryz.results128, go_sem]) rfl ?_
  exact ⟨rfl, exq⟩

set_option maxHeartbeats 400000 in
theorem scale_sums_any (l : List Part) (v : Value) (w : World) (hrow : IsRow (fun t : Kr.Part => [.int .i64 t.gain, .int .i64 t.off, .int .i64 t.sum.lo, .int .i64 t.sum.hi]) 4 w v l) (k : Nat) (hk : k ≤ 1000) (hg : Kr.Good k l) (hlen : l.length ≤ 1000000000000) :
    Calls Tryz.prog 92 #[v] w fun e w' => ∃ v', e = .returned v' ∧ IsRow (fun t : Kr.Span => [.int .i64 t.lo, .int .i64 t.hi]) 2 w' v' (sums l) ∧ w.Exts w' := by
  have hw : Within 0 100000000000 (l.map Part.sum) := fun s hs => by have := good_within hg s hs; omega
  have HR := Lib.hid hrow
  clear hrow
  have HG := Lib.hid hg
  clear hg
  have HW := Lib.hid hw
  clear hw
  go_enter Tryz.func92, Tryz.ntmps92
  go_wp2_with (go_at_call 127; refine (scale_merged_truth_any l _ _ (HR.out.mono exq) Part.sum 128 (enters_of Tryz.func128 (by kernel_rfl) rfl) (fun x _ W _ => scale_sums_1_any x W) (good_full HG.out) HW.out hlen).mono ?_; rintro e w' ⟨v', rfl, hv, X2, rfl⟩; obtain ⟨q, cp, rfl⟩ := hv.len; have HV := Lib.hid hv; clear hv)
  go_ret
  exact ⟨_, rfl, HV.out, exq⟩

def shift (s t : Span) : Span := ⟨s.lo + t.lo, s.hi + t.hi⟩
theorem crossed_snoc (a b : List Span) (s : Span) : crossed (a ++ [s]) b = crossed a b ++ b.map (shift s) := by
  unfold crossed; rw [List.flatMap_append]; simp [shift]
theorem crossed_take_len (a b : List Span) (k m : Nat) (f : Span → Span) (hk : k < a.length) (hm : m ≤ b.length) : (crossed (a.take k) b ++ (b.take m).map f).length ≤ a.length * b.length := by
  rw [List.length_append, crossed_len, List.length_map, List.length_take, List.length_take, Nat.min_eq_left (by omega), Nat.min_eq_left hm]
  calc k * b.length + m ≤ k * b.length + b.length := by omega
    _ = (k + 1) * b.length := by rw [Nat.succ_mul]
    _ ≤ a.length * b.length := Nat.mul_le_mul_right _ (by omega)

set_option maxRecDepth 4000 in
set_option maxHeartbeats 2000000 in
theorem scale_plus_own (a b : List Span) (va vb : Value) (w : World) (ha : IsRow (fun t : Kr.Span => [.int .i64 t.lo, .int .i64 t.hi]) 2 w va a) (hb : IsRow (fun t : Kr.Span => [.int .i64 t.lo, .int .i64 t.hi]) 2 w vb b) (fa : Full a) (fb : Full b) (wa : Within 0 40000000000 a) (wb : Within 0 40000000000 b) (hl : a.length * b.length ≤ 1000000000000) :
    Calls Tryz.prog 91 #[va, vb] w fun e w' => ∃ v', e = .returned v' ∧ IsRow (fun t : Kr.Span => [.int .i64 t.lo, .int .i64 t.hi]) 2 w' v' (plus a b) ∧ w.Exts w' ∧ RowT 28 w' v' ∧ RowN w.heap.size v' := by
  obtain ⟨q1, b1, o1, cap1, rfl, hm1, hq1, hc1⟩ := ha.ex
  obtain ⟨q2, b2, o2, cap2, rfl, hm2, hq2, hc2⟩ := hb.ex
  have hcf := crossed_full fa fb
  have hcw : Within 0 100000000000 (crossed a b) := fun s hs => by have := crossed_within wa wb s hs; omega
  have hcl : (crossed a b).length ≤ 1000000000000 := by rw [crossed_len]; exact hl
  have HCF := Lib.hid hcf
  clear hcf
  have HCW := Lib.hid hcw
  clear hcw
  have HC1 := Lib.hid hc1
  clear hc1
  have HC2 := Lib.hid hc2
  clear hc2
  have HQ1 := Lib.hid hq1
  clear hq1
  have HQ2 := Lib.hid hq2
  clear hq2
  have FA := Lib.hid fa
  clear fa
  have FB := Lib.hid fb
  clear fb
  have WA := Lib.hid wa
  clear wa
  have WB := Lib.hid wb
  clear wb
  clear ha hb
  go_enter Tryz.func91, Tryz.ntmps91
  go_wp2_with fail
  go_loopw [5, 12] (fun out i wr => ∃ k : Nat, k ≤ a.length ∧ i = .int .i64 k ∧ Hid (wr.ownsRow w.heap.size 28 2 out (crossed (a.take k) b).length (spanCs (crossed (a.take k) b))) ∧ w.Exts wr) (fun _ i _ => a.length - (intOf i).toNat)
  case atStart => exact ⟨0, Nat.zero_le _, rfl, Lib.hid (World.ownsRow_nil _ _ _ _), exq⟩
  case round =>
    obtain ⟨k, hk, rfl, HO, hE⟩ := hrel
    obtain ⟨X, rfl⟩ := hE
    by_cases hlt : k < a.length
    · obtain ⟨rfl, hl1⟩ := HQ1.out (by omega)
      obtain ⟨s, hs⟩ := some_of_lt hlt
      have hcs := HC1.out k s hs
      have c0 := hcs 0 _ rfl
      have c1 := hcs 1 _ rfl
      simp only [Nat.add_zero] at c0 c1
      have hsw := WA.out s (List.mem_of_getElem? hs)
      have hsf := FA.out s (List.mem_of_getElem? hs)
      have hnk : crossed (a.take (k + 1)) b = crossed (a.take k) b ++ b.map (shift s) := by rw [take_snoc hs, crossed_snoc]
      have hlk := fun m (hm : m ≤ b.length) => crossed_take_len a b k m (shift s) hlt hm
      have HNK := Lib.hid hnk
      clear hnk
      have HLK := Lib.hid hlk
      clear hlk
      clear hs hcs HQ1
      go_wp2_with fail
      go_loopw [5, 18] (fun out i wr => ∃ m : Nat, m ≤ b.length ∧ i = .int .i64 m ∧ Hid (wr.ownsRow w.heap.size 28 2 out (crossed (a.take k) b ++ (b.take m).map (shift s)).length (spanCs (crossed (a.take k) b ++ (b.take m).map (shift s)))) ∧ w.Exts wr ∧ Hid (LaysAs wr (World.ext _ X).heap.size (.cells #[.int .i64 s.lo, .int .i64 s.hi] 28 (0, 0))) ∧ Hid (out.ownBlock ≠ some (World.ext _ X).heap.size)) (fun _ i _ => b.length - (intOf i).toNat)
      case atStart => exact ⟨0, Nat.zero_le _, rfl, Lib.hid (by simpa using ownsRow_exts HO.out exq), exq, Lib.hid (LaysAs.new _ _), Lib.hid (own_not_new HO.out)⟩
      case round =>
        obtain ⟨m, hm, rfl, HO2, hE, HL, HN⟩ := hrel
        obtain ⟨X2, rfl⟩ := hE
        have e0 := HL.out.cell (cs := [.int .i64 s.lo, .int .i64 s.hi]) 0 _ rfl
        have e1 := HL.out.cell (cs := [.int .i64 s.lo, .int .i64 s.hi]) 1 _ rfl
        haveI := Lays.of_cell e0
        by_cases hlt2 : m < b.length
        · obtain ⟨rfl, hl2⟩ := HQ2.out (by omega)
          obtain ⟨t, ht⟩ := some_of_lt hlt2
          have hct := HC2.out m t ht
          have d0 := hct 0 _ rfl
          have d1 := hct 1 _ rfl
          simp only [Nat.add_zero] at d0 d1
          have htw := WB.out t (List.mem_of_getElem? ht)
          have htf := FB.out t (List.mem_of_getElem? ht)
          have hnx : crossed (a.take k) b ++ (b.take (m + 1)).map (shift s) = crossed (a.take k) b ++ (b.take m).map (shift s) ++ [⟨s.lo + t.lo, s.hi + t.hi⟩] := by rw [take_snoc ht, List.map_append, List.append_assoc]; rfl
          have hlm := HLK.out m hm
          generalize hL : crossed (a.take k) b ++ (b.take m).map (shift s) = L at hnx hlm HO2
          have HNX := Lib.hid hnx
          clear hnx
          clear ht hct HQ2 hL
          go_wp2_with (at_builtin; refine wpList_append1W (.tmp 22) (.tmp 34) elem_Span rfl rfl rfl (ownsRow_exts HO2.out exq) [.int .i64 (s.lo + t.lo), .int .i64 (s.hi + t.hi)] _ (by simp) rfl rfl ?h1 ?h2 ?h4 ?h3 ?_)
          case h1 => exact one_Span ⟨s.lo + t.lo, s.hi + t.hi⟩
          case h2 => omega
          case h4 => decide
          case h3 => exact World.Exts.size exq
          intro v' w' hown' happ
          have hE := happ.exts w exq (Nat.le_refl _)
          have hL2 := (HL.out.exts exq).appended happ HN.out
          have HO3 := Lib.hid hown'
          clear hown'
          have HE := Lib.hid hE
          clear hE
          have HL2 := Lib.hid hL2
          clear hL2
          clear happ
          go_wp2_with fail
          go_roundw
          case rel => exact ⟨m + 1, by omega, by go_num, Lib.hid (by rw [HNX.out, spanCs_snoc, List.length_append]; exact HO3.out), HE.out, Lib.hid HL2.out.1, Lib.hid HL2.out.2⟩
          case measure => simp [intOf]; omega
        · have hmb : m = b.length := by omega
          have hO := HO2.out
          rw [hmb, List.take_length, ← HNK.out] at hO
          have HO3 := Lib.hid hO
          clear hO
          clear hmb
          go_wp2_with fail
          go_roundw
          case rel => exact ⟨k + 1, by omega, by go_num, Lib.hid HO3.out, exq⟩
          case measure => simp [intOf]; omega
    · have hka : k = a.length := by omega
      have hO := HO.out
      rw [hka, List.take_length] at hO
      have hrw := row_spans hO
      have HRW := Lib.hid hrw
      clear hrw
      clear hka HO hO
      go_wp2_with (go_at_call 125; refine (scale_merged_Span_own (crossed a b) _ _ (HRW.out.mono exq) id 126 (enters_of Tryz.func126 (by kernel_rfl) rfl) (fun x _ W _ => scale_itself_any x W) (by rw [List.map_id]; exact HCF.out) (by rw [List.map_id]; exact HCW.out) hcl).mono ?_; rw [List.map_id]; rintro e w' ⟨v', rfl, hv, ⟨X2, rfl⟩, hvt, hvn⟩; obtain ⟨q, cp, rfl⟩ := hv.len; have HV := Lib.hid hv; have HVT := Lib.hid hvt; have HVN := Lib.hid hvn; clear hv hvt hvn)
      go_ret
      exact ⟨_, rfl, HV.out, exq, HVT.out, HVN.out.le (World.Exts.size exq)⟩
end Go.Proofs.YtcickafaomfbmaaGreatDoor
