/-
  Walks of package scale: the sums of the loads on a scale; all sums of spans.
-/
import Derived.Test.YtomcenfikdmmkaaGreatDoorTe
import Derived.Test.YtomcenfikdmmkaaGreatDoorTd
namespace Go.Proofs.YtomcenfikdmmkaaGreatDoor
open Go.RowKit Kr

set_option maxRecDepth 4000 in
set_option maxHeartbeats 4000000 in
theorem scale_merged_truth_own (xs : List Part) (v : Value) (w : World) (hrow : IsRow (fun t : Kr.Part => [.int .i64 t.gain, .int .i64 t.off, .int .i64 t.sum.lo, .int .i64 t.sum.hi]) 4 w v xs) (f : Part → Span) (g : Nat) (eg : ∀ args w, (callFunc g args).run Tryz.prog w = .ok (.enter g args) w)
    (hf : ∀ x ∈ xs, ∀ W, w.Exts W → Calls Tryz.prog g #[(fun t : Kr.Part => .agg #[.int .i64 t.gain, .int .i64 t.off, .int .i64 t.sum.lo, .int .i64 t.sum.hi]) x] W fun e W' => e = .returned (.agg #[.int .i64 (f x).lo, .int .i64 (f x).hi]) ∧ W.Exts W') (hfull : Full (xs.map f)) (hin : Within 0 100000000000 (xs.map f)) (hlen : xs.length ≤ 1000000000000) :
    Calls Tryz.prog 102 #[v, .func (.func g) #[] #[]] w fun e w' => ∃ v', e = .returned v' ∧ IsRow (fun t : Kr.Span => [.int .i64 t.lo, .int .i64 t.hi]) 2 w' v' (merged (xs.map f)) ∧ w.Exts w' ∧ RowT 30 w' v' ∧ RowN w.heap.size v' := by
  obtain ⟨q, b, o, cap, rfl, hm, hq, hc⟩ := hrow.ex
  have HC := Lib.hid hc
  clear hc
  have HQ := Lib.hid hq
  clear hq
  have HF := Lib.hid hf
  clear hf
  have HFULL := Lib.hid hfull
  clear hfull
  have HIN := Lib.hid hin
  clear hin
  clear hrow
  go_enter Tryz.func102, Tryz.ntmps102
  go_wp2_with fail
  go_loopw [5, 14] (fun all i wr => ∃ k : Nat, k ≤ xs.length ∧ i = .int .i64 k ∧ Hid (wr.ownsRow w.heap.size 30 2 all ((xs.take k).map f).length (spanCs ((xs.take k).map f))) ∧ w.Exts wr) (fun _ i _ => xs.length - (intOf i).toNat)
  case atStart => exact ⟨0, Nat.zero_le _, rfl, Lib.hid (World.ownsRow_nil _ _ _ _), World.Exts.refl _⟩
  case round =>
    obtain ⟨k, hk, rfl, HO, hE⟩ := hrel
    obtain ⟨X, rfl⟩ := hE
    by_cases hlt : k < xs.length
    · obtain ⟨rfl, hl⟩ := HQ.out (by omega)
      obtain ⟨x, hx⟩ := some_of_lt hlt
      have hcs := HC.out k x hx
      have c0 := hcs 0 _ rfl
      have c1 := hcs 1 _ rfl
      have c2 := hcs 2 _ rfl
      have c3 := hcs 3 _ rfl
      simp only [Nat.add_zero] at c0 c1 c2 c3
      have hcall := HF.out x (List.mem_of_getElem? hx)
      have hnx : (xs.take (k + 1)).map f = (xs.take k).map f ++ [f x] := by rw [take_snoc hx, List.map_append, List.map_singleton]
      have hlk : ((xs.take k).map f).length = k := by rw [List.length_map, List.length_take]; omega
      have HNX := Lib.hid hnx
      clear hnx
      have HCALL := Lib.hid hcall
      clear hcall
      have HLK := Lib.hid hlk
      clear hlk
      clear hx hcs HQ HC HF
      go_wp2_with (first
        | (go_at_fn g; refine (HCALL.out _ (by repeat' (first | with_reducible exact World.Exts.refl _ | with_reducible refine World.Exts.alloc ?_ _ | with_reducible refine World.Exts.drew ?_ | with_reducible refine World.Exts.drewN ?_ _ | with_reducible refine World.Exts.ext ?_ _ | with_reducible refine World.Exts.setCell ?_ ?_ _ | (simp; done) | exact World.size_ext_le _ _ | (simp; omega)))).mono ?_; rintro e w' ⟨rfl, X2, rfl⟩)
        | (at_builtin; refine wpList_append1L (.tmp 18) (.tmp 22) elem_Span rfl rfl rfl (ownsRow_exts HO.out (by repeat' (first | with_reducible exact World.Exts.refl _ | with_reducible refine World.Exts.alloc ?_ _ | with_reducible refine World.Exts.drew ?_ | with_reducible refine World.Exts.drewN ?_ _ | with_reducible refine World.Exts.ext ?_ _ | with_reducible refine World.Exts.setCell ?_ ?_ _ | (simp; done) | exact World.size_ext_le _ _ | (simp; omega)))) [.int .i64 (f x).lo, .int .i64 (f x).hi] _ rfl rfl rfl ?h1 ?h2 ?h4 ?h3 ?_))
      case h1 => exact one_Span _
      case h2 => rw [HLK.out]; omega
      case h4 => decide
      case h3 => exact World.Exts.size (by repeat' (first | with_reducible exact World.Exts.refl _ | with_reducible refine World.Exts.alloc ?_ _ | with_reducible refine World.Exts.drew ?_ | with_reducible refine World.Exts.drewN ?_ _ | with_reducible refine World.Exts.ext ?_ _ | with_reducible refine World.Exts.setCell ?_ ?_ _ | (simp; done) | exact World.size_ext_le _ _ | (simp; omega)))
      intro v' w' hown' happ
      have hE := happ.exts w (by repeat' (first | with_reducible exact World.Exts.refl _ | with_reducible refine World.Exts.alloc ?_ _ | with_reducible refine World.Exts.drew ?_ | with_reducible refine World.Exts.drewN ?_ _ | with_reducible refine World.Exts.ext ?_ _ | with_reducible refine World.Exts.setCell ?_ ?_ _ | (simp; done) | exact World.size_ext_le _ _ | (simp; omega))) (Nat.le_refl _)
      have HO3 := Lib.hid hown'
      clear hown'
      have HE := Lib.hid hE
      clear hE
      clear happ
      go_wp2_with fail
      go_roundw
      case rel => exact ⟨k + 1, by omega, by go_num, Lib.hid (by rw [HNX.out, spanCs_snoc, List.length_append, HLK.out]; simpa using HO3.out), HE.out⟩
      case measure => simp [intOf]; omega
    · have hkn : k = xs.length := by omega
      have hO := HO.out
      rw [hkn, List.take_length, List.length_map] at hO
      have HO2 := Lib.hid hO
      clear hO
      clear hkn HO
      go_wp2_with fail
      refine (sort_spans2 w.heap.size _ (xs.map f) _ (by rw [List.length_map]; exact HO2.out) HIN.out HFULL.out (by rw [List.length_map]; exact hlen)).mono ?_
      rintro e w' ⟨rfl, ys, hperm, hbylo, hownS, hexS⟩
      have hEw2 := hexS w (by repeat' (first | with_reducible exact World.Exts.refl _ | with_reducible refine World.Exts.alloc ?_ _ | with_reducible refine World.Exts.drew ?_ | with_reducible refine World.Exts.drewN ?_ _ | with_reducible refine World.Exts.ext ?_ _ | with_reducible refine World.Exts.setCell ?_ ?_ _ | (simp; done) | exact World.size_ext_le _ _ | (simp; omega))) (Nat.le_refl _)
      have hysl : ys.length = xs.length := by rw [hperm.length_eq, List.length_map]
      have hyf : ∀ s ∈ ys, s.lo ≤ s.hi ∧ 0 ≤ s.lo ∧ s.hi ≤ 100000000000 := fun s hs => ⟨HFULL.out s (hperm.mem_iff.1 hs), (HIN.out s (hperm.mem_iff.1 hs)).1, (HIN.out s (hperm.mem_iff.1 hs)).2⟩
      have hfin := merged_of hperm hbylo HFULL.out
      have hrowS := row_spans (l := ys) (by rw [hysl]; rw [List.length_map] at hownS; exact hownS)
      have hyb : ys.length ≤ 1000000000000 := by rw [hysl]; exact hlen
      have HYSL := Lib.hid hysl
      clear hysl
      have HYF := Lib.hid hyf
      clear hyf
      have HFIN := Lib.hid hfin
      clear hfin
      obtain ⟨qs, bs, os, caps, rfl, hms, hqs, hcss⟩ := hrowS.ex
      have HQS := Lib.hid hqs
      clear hqs
      have HCS := Lib.hid hcss
      clear hcss
      obtain ⟨X2, rfl⟩ := hEw2
      clear hperm hbylo hownS hexS hrowS
      go_wp2_with fail
      go_loopw [8, 29] (fun few i wr => ∃ k : Nat, k ≤ ys.length ∧ i = .int .i64 k ∧ Hid (wr.ownsRow (w.ext X2).heap.size 30 2 few ((ys.take k).foldl push []).length (spanCs ((ys.take k).foldl push []))) ∧ (w.ext X2).Exts wr) (fun _ i _ => ys.length - (intOf i).toNat)
      case atStart => exact ⟨0, Nat.zero_le _, rfl, Lib.hid (World.ownsRow_nil _ _ _ _), (by repeat' (first | with_reducible exact World.Exts.refl _ | with_reducible refine World.Exts.alloc ?_ _ | with_reducible refine World.Exts.drew ?_ | with_reducible refine World.Exts.drewN ?_ _ | with_reducible refine World.Exts.ext ?_ _ | with_reducible refine World.Exts.setCell ?_ ?_ _ | (simp; done) | exact World.size_ext_le _ _ | (simp; omega)))⟩
      case round =>
        obtain ⟨k2, hk2, rfl, HO, hE⟩ := hrel
        obtain ⟨X, rfl⟩ := hE
        by_cases hlt2 : k2 < ys.length
        · obtain ⟨rfl, hl⟩ := HQS.out (by omega)
          obtain ⟨s, hs⟩ := some_of_lt hlt2
          have hcs := HCS.out k2 s hs
          have c0 := hcs 0 _ rfl
          have c1 := hcs 1 _ rfl
          simp only [Nat.add_zero] at c0 c1
          obtain ⟨hs1, hs2, hs3⟩ := HYF.out s (List.mem_of_getElem? hs)
          have hnx : (ys.take (k2 + 1)).foldl push [] = push ((ys.take k2).foldl push []) s := by rw [take_snoc hs, List.foldl_append]; rfl
          have hfl : ((ys.take k2).foldl push []).length ≤ k2 := by
            have h := push_len (ys.take k2) []
            rw [List.length_take] at h; simp at h; omega
          have hfb : ∀ y ∈ (ys.take k2).foldl push [], 0 ≤ y.hi ∧ y.hi ≤ 100000000000 := fold_hi (fun y hy => by have := HYF.out y (List.mem_of_mem_take hy); omega)
          generalize (ys.take k2).foldl push [] = fs at hnx hfl hfb HO
          have HNX := Lib.hid hnx
          clear hnx
          clear hs hcs HQS HCS HYF
          rcases snoc_cases fs with rfl | ⟨r, kk, rfl⟩
          · obtain ⟨pf, cf, rfl⟩ := owns_len HO.out
            simp only [List.length_nil] at *
            go_wp2_with fail
            refine wp_region_ext (by kernel_rfl) (by kernel_rfl) ?_
            repeat (go_big_quiet_step (fail))
            refine wpQuiet_nil ?_
            rintro _ ⟨X, rfl⟩
            go_wp2_with (at_builtin; refine wpList_append1L (.tmp 63) (.tmp 65) elem_Span rfl rfl rfl (ownsRow_exts HO.out (by repeat' (first | with_reducible exact World.Exts.refl _ | with_reducible refine World.Exts.alloc ?_ _ | with_reducible refine World.Exts.drew ?_ | with_reducible refine World.Exts.drewN ?_ _ | with_reducible refine World.Exts.ext ?_ _ | with_reducible refine World.Exts.setCell ?_ ?_ _ | (simp; done) | exact World.size_ext_le _ _ | (simp; omega)))) [.int .i64 s.lo, .int .i64 s.hi] _ rfl rfl rfl ?h1 ?h2 ?h4 ?h3 ?_)
            case h1 => exact one_Span _
            case h2 => omega
            case h4 => decide
            case h3 => exact World.Exts.size (by repeat' (first | with_reducible exact World.Exts.refl _ | with_reducible refine World.Exts.alloc ?_ _ | with_reducible refine World.Exts.drew ?_ | with_reducible refine World.Exts.drewN ?_ _ | with_reducible refine World.Exts.ext ?_ _ | with_reducible refine World.Exts.setCell ?_ ?_ _ | (simp; done) | exact World.size_ext_le _ _ | (simp; omega)))
            intro v' w' hown' happ
            have hE := happ.exts (w.ext X2) (by repeat' (first | with_reducible exact World.Exts.refl _ | with_reducible refine World.Exts.alloc ?_ _ | with_reducible refine World.Exts.drew ?_ | with_reducible refine World.Exts.drewN ?_ _ | with_reducible refine World.Exts.ext ?_ _ | with_reducible refine World.Exts.setCell ?_ ?_ _ | (simp; done) | exact World.size_ext_le _ _ | (simp; omega))) (Nat.le_refl _)
            have HO3 := Lib.hid hown'
            clear hown'
            have HE := Lib.hid hE
            clear hE
            clear happ
            go_wp2_with fail
            go_roundw
            case rel => exact ⟨k2 + 1, by omega, by go_num, Lib.hid (by rw [HNX.out]; simpa [push_nil, spanCs] using HO3.out), HE.out⟩
            case measure => simp [intOf]; omega
          · obtain ⟨g2, cf, rfl, hbg, hlg⟩ := owns_form HO.out (by simp)
            have hkk := hfb kk (by simp)
            have hlr : (r ++ [kk]).length = r.length + 1 := by simp
            have e1 : (World.ext _ X).cell? ⟨g2, r.length * 2 + 1, none⟩ = some (.int .i64 kk.hi) := by rw [HO.out.cellAt _ (by rw [hlr]; omega)]; exact spanCs_at r kk 1 _ rfl
            have f1 := HO.out.frozenAt (r.length * 2 + 1)
            haveI := Lays.of_cell e1
            rw [hlr] at HO hfl ⊢
            clear hfb hlr
            rcases Int.lt_or_le (kk.hi + 1) s.lo with hc | hc
            · go_wp2_with fail
              refine wp_region_ext (by kernel_rfl) (by kernel_rfl) ?_
              repeat (go_big_quiet_step (fail))
              refine wpQuiet_nil ?_
              rintro _ ⟨X, rfl⟩
              go_wp2_with (at_builtin; refine wpList_append1L (.tmp 63) (.tmp 65) elem_Span rfl rfl rfl (ownsRow_exts HO.out (by repeat' (first | with_reducible exact World.Exts.refl _ | with_reducible refine World.Exts.alloc ?_ _ | with_reducible refine World.Exts.drew ?_ | with_reducible refine World.Exts.drewN ?_ _ | with_reducible refine World.Exts.ext ?_ _ | with_reducible refine World.Exts.setCell ?_ ?_ _ | (simp; done) | exact World.size_ext_le _ _ | (simp; omega)))) [.int .i64 s.lo, .int .i64 s.hi] _ rfl rfl rfl ?h1 ?h2 ?h4 ?h3 ?_)
              case h1 => exact one_Span _
              case h2 => omega
              case h4 => decide
              case h3 => exact World.Exts.size (by repeat' (first | with_reducible exact World.Exts.refl _ | with_reducible refine World.Exts.alloc ?_ _ | with_reducible refine World.Exts.drew ?_ | with_reducible refine World.Exts.drewN ?_ _ | with_reducible refine World.Exts.ext ?_ _ | with_reducible refine World.Exts.setCell ?_ ?_ _ | (simp; done) | exact World.size_ext_le _ _ | (simp; omega)))
              intro v' w' hown' happ
              have hE := happ.exts (w.ext X2) (by repeat' (first | with_reducible exact World.Exts.refl _ | with_reducible refine World.Exts.alloc ?_ _ | with_reducible refine World.Exts.drew ?_ | with_reducible refine World.Exts.drewN ?_ _ | with_reducible refine World.Exts.ext ?_ _ | with_reducible refine World.Exts.setCell ?_ ?_ _ | (simp; done) | exact World.size_ext_le _ _ | (simp; omega))) (Nat.le_refl _)
              have HO3 := Lib.hid hown'
              clear hown'
              have HE := Lib.hid hE
              clear hE
              clear happ
              go_wp2_with fail
              go_roundw
              case rel => exact ⟨k2 + 1, by omega, by go_num, Lib.hid (by rw [HNX.out, push_snoc, if_neg (by omega), spanCs_snoc, List.length_append, List.length_append]; exact HO3.out), HE.out⟩
              case measure => simp [intOf]; omega
            · rcases Int.lt_or_le kk.hi s.hi with hm1 | hm1
              · go_wp2_with fail
                refine wp_region_ext (by kernel_rfl) (by kernel_rfl) ?_
                repeat (go_big_quiet_step (fail))
                refine wpQuiet_nil ?_
                rintro _ ⟨X, rfl⟩
                go_wp2_with fail
                refine wp_region_ext_tail 14 (by kernel_rfl) (by kernel_rfl) ?_
                simp only [List.take_succ_cons, List.take_zero, List.drop_succ_cons, List.drop_zero]
                repeat (go_big_quiet_step (fail))
                refine wpQuiet_nil ?_
                rintro _ ⟨X, rfl⟩
                go_wp2_with fail
                go_roundw
                case rel => exact ⟨k2 + 1, by omega, by go_num, Lib.hid (by rw [HNX.out, push_snoc, if_pos (by omega), List.length_append, ← spanCs_set, Int.max_eq_right (by omega)]; exact ((ownsRow_exts HO.out (by repeat' (first | with_reducible exact World.Exts.refl _ | with_reducible refine World.Exts.alloc ?_ _ | with_reducible refine World.Exts.drew ?_ | with_reducible refine World.Exts.drewN ?_ _ | with_reducible refine World.Exts.ext ?_ _ | with_reducible refine World.Exts.setCell ?_ ?_ _ | (simp; done) | exact World.size_ext_le _ _ | (simp; omega)))).stored _ _).1), (by repeat' (first | with_reducible exact World.Exts.refl _ | with_reducible refine World.Exts.alloc ?_ _ | with_reducible refine World.Exts.drew ?_ | with_reducible refine World.Exts.drewN ?_ _ | with_reducible refine World.Exts.ext ?_ _ | with_reducible refine World.Exts.setCell ?_ ?_ _ | (simp; done) | exact World.size_ext_le _ _ | (simp; omega)))⟩
                case measure => simp [intOf]; omega
              · go_wp2_with fail
                refine wp_region_ext (by kernel_rfl) (by kernel_rfl) ?_
                repeat (go_big_quiet_step (fail))
                refine wpQuiet_nil ?_
                rintro _ ⟨X, rfl⟩
                go_wp2_with fail
                refine wp_region_ext_tail 14 (by kernel_rfl) (by kernel_rfl) ?_
                simp only [List.take_succ_cons, List.take_zero, List.drop_succ_cons, List.drop_zero]
                repeat (go_big_quiet_step (fail))
                refine wpQuiet_nil ?_
                rintro _ ⟨X, rfl⟩
                go_wp2_with fail
                go_roundw
                case rel => exact ⟨k2 + 1, by omega, by go_num, Lib.hid (by rw [HNX.out, push_snoc, if_pos (by omega), List.length_append, ← spanCs_set, Int.max_eq_left (by omega)]; exact ((ownsRow_exts HO.out (by repeat' (first | with_reducible exact World.Exts.refl _ | with_reducible refine World.Exts.alloc ?_ _ | with_reducible refine World.Exts.drew ?_ | with_reducible refine World.Exts.drewN ?_ _ | with_reducible refine World.Exts.ext ?_ _ | with_reducible refine World.Exts.setCell ?_ ?_ _ | (simp; done) | exact World.size_ext_le _ _ | (simp; omega)))).stored _ _).1), (by repeat' (first | with_reducible exact World.Exts.refl _ | with_reducible refine World.Exts.alloc ?_ _ | with_reducible refine World.Exts.drew ?_ | with_reducible refine World.Exts.drewN ?_ _ | with_reducible refine World.Exts.ext ?_ _ | with_reducible refine World.Exts.setCell ?_ ?_ _ | (simp; done) | exact World.size_ext_le _ _ | (simp; omega)))⟩
                case measure => simp [intOf]; omega
        · have hkn2 : k2 = ys.length := by omega
          have hO := HO.out
          rw [hkn2, List.take_length, HFIN.out] at hO
          have HO3 := Lib.hid hO
          clear hO
          clear hkn2
          go_wp2_with fail
          go_ret
          exact ⟨_, rfl, row_spans HO3.out, (by repeat' (first | with_reducible exact World.Exts.refl _ | with_reducible refine World.Exts.alloc ?_ _ | with_reducible refine World.Exts.drew ?_ | with_reducible refine World.Exts.drewN ?_ _ | with_reducible refine World.Exts.ext ?_ _ | with_reducible refine World.Exts.setCell ?_ ?_ _ | (simp; done) | exact World.size_ext_le _ _ | (simp; omega))), RowT.of_owns HO3.out, fun b hb => Nat.le_trans (World.Exts.size (World.Exts.refl w |>.ext X2)) (HO3.out.lt b hb).1⟩
theorem scale_merged_truth_any (xs : List Part) (v : Value) (w : World) (hrow : IsRow (fun t : Kr.Part => [.int .i64 t.gain, .int .i64 t.off, .int .i64 t.sum.lo, .int .i64 t.sum.hi]) 4 w v xs) (f : Part → Span) (g : Nat) (eg : ∀ args w, (callFunc g args).run Tryz.prog w = .ok (.enter g args) w)
    (hf : ∀ x ∈ xs, ∀ W, w.Exts W → Calls Tryz.prog g #[(fun t : Kr.Part => .agg #[.int .i64 t.gain, .int .i64 t.off, .int .i64 t.sum.lo, .int .i64 t.sum.hi]) x] W fun e W' => e = .returned (.agg #[.int .i64 (f x).lo, .int .i64 (f x).hi]) ∧ W.Exts W') (hfull : Full (xs.map f)) (hin : Within 0 100000000000 (xs.map f)) (hlen : xs.length ≤ 1000000000000) :
    Calls Tryz.prog 102 #[v, .func (.func g) #[] #[]] w fun e w' => ∃ v', e = .returned v' ∧ IsRow (fun t : Kr.Span => [.int .i64 t.lo, .int .i64 t.hi]) 2 w' v' (merged (xs.map f)) ∧ w.Exts w' :=
  (scale_merged_truth_own xs v w hrow f g eg hf hfull hin hlen).mono fun _ _ ⟨v', h1, h2, h3, _⟩ => ⟨v', h1, h2, h3⟩

set_option maxHeartbeats 400000 in
theorem scale_itself_any (s : Span) (w : World) : Calls Tryz.prog 101 #[.agg #[.int .i64 s.lo, .int .i64 s.hi]] w fun e w' => e = .returned (.agg #[.int .i64 s.lo, .int .i64 s.hi]) ∧ w.Exts w' := by
  go_enter Tryz.func101, Tryz.ntmps101
  go_wp2_with fail
  refine bodyPost_ret (v := .agg #[.int .i64 s.lo, .int .i64 s.hi]) (by simp [results, Tryz.results101, go_sem]) rfl ?_
  exact ⟨rfl, (by repeat' (first | with_reducible exact World.Exts.refl _ | with_reducible refine World.Exts.alloc ?_ _ | with_reducible refine World.Exts.drew ?_ | with_reducible refine World.Exts.drewN ?_ _ | with_reducible refine World.Exts.ext ?_ _ | with_reducible refine World.Exts.setCell ?_ ?_ _ | (simp; done) | exact World.size_ext_le _ _ | (simp; omega)))⟩
set_option maxHeartbeats 400000 in
theorem scale_sums_1_any (x : Part) (w : World) : Calls Tryz.prog 103 #[.agg #[.int .i64 x.gain, .int .i64 x.off, .int .i64 x.sum.lo, .int .i64 x.sum.hi]] w fun e w' => e = .returned (.agg #[.int .i64 x.sum.lo, .int .i64 x.sum.hi]) ∧ w.Exts w' := by
  go_enter Tryz.func103, Tryz.ntmps103
  go_wp2_with fail
  refine bodyPost_ret (v := .agg #[.int .i64 x.sum.lo, .int .i64 x.sum.hi]) (by simp [results, Tryz.results103, go_sem]) rfl ?_
  exact ⟨rfl, (by repeat' (first | with_reducible exact World.Exts.refl _ | with_reducible refine World.Exts.alloc ?_ _ | with_reducible refine World.Exts.drew ?_ | with_reducible refine World.Exts.drewN ?_ _ | with_reducible refine World.Exts.ext ?_ _ | with_reducible refine World.Exts.setCell ?_ ?_ _ | (simp; done) | exact World.size_ext_le _ _ | (simp; omega)))⟩

set_option maxHeartbeats 400000 in
theorem scale_sums_any (l : List Part) (v : Value) (w : World) (hrow : IsRow (fun t : Kr.Part => [.int .i64 t.gain, .int .i64 t.off, .int .i64 t.sum.lo, .int .i64 t.sum.hi]) 4 w v l) (k : Nat) (hk : k ≤ 1000) (hg : Kr.Good k l) (hlen : l.length ≤ 1000000000000) :
    Calls Tryz.prog 67 #[v] w fun e w' => ∃ v', e = .returned v' ∧ IsRow (fun t : Kr.Span => [.int .i64 t.lo, .int .i64 t.hi]) 2 w' v' (sums l) ∧ w.Exts w' := by
  have hw : Within 0 100000000000 (l.map Part.sum) := fun s hs => by have := good_within hg s hs; omega
  have HR := Lib.hid hrow
  clear hrow
  have HG := Lib.hid hg
  clear hg
  have HW := Lib.hid hw
  clear hw
  go_enter Tryz.func67, Tryz.ntmps67
  go_wp2_with (go_at_call 102; refine (scale_merged_truth_any l _ _ (HR.out.mono (by repeat' (first | with_reducible exact World.Exts.refl _ | with_reducible refine World.Exts.alloc ?_ _ | with_reducible refine World.Exts.drew ?_ | with_reducible refine World.Exts.drewN ?_ _ | with_reducible refine World.Exts.ext ?_ _ | with_reducible refine World.Exts.setCell ?_ ?_ _ | (simp; done) | exact World.size_ext_le _ _ | (simp; omega)))) Part.sum 103 (enters_of Tryz.func103 (by kernel_rfl) rfl) (fun x _ W _ => scale_sums_1_any x W) (good_full HG.out) HW.out hlen).mono ?_; rintro e w' ⟨v', rfl, hv, X2, rfl⟩; obtain ⟨q, cp, rfl⟩ := hv.len; have HV := Lib.hid hv; clear hv)
  go_ret
  exact ⟨_, rfl, HV.out, (by repeat' (first | with_reducible exact World.Exts.refl _ | with_reducible refine World.Exts.alloc ?_ _ | with_reducible refine World.Exts.drew ?_ | with_reducible refine World.Exts.drewN ?_ _ | with_reducible refine World.Exts.ext ?_ _ | with_reducible refine World.Exts.setCell ?_ ?_ _ | (simp; done) | exact World.size_ext_le _ _ | (simp; omega)))⟩

def shift (s t : Span) : Span := ⟨s.lo + t.lo, s.hi + t.hi⟩
theorem crossed_snoc (a b : List Span) (s : Span) : crossed (a ++ [s]) b = crossed a b ++ b.map (shift s) := by
  unfold crossed; rw [List.flatMap_append]; simp [shift]
theorem crossed_take_len (a b : List Span) (k m : Nat) (f : Span → Span) (hk : k < a.length) (hm : m ≤ b.length) : (crossed (a.take k) b ++ (b.take m).map f).length ≤ a.length * b.length := by
  rw [List.length_append, crossed_len, List.length_map, List.length_take, List.length_take, Nat.min_eq_left (by omega), Nat.min_eq_left hm]
  calc k * b.length + m ≤ k * b.length + b.length := by omega
    _ = (k + 1) * b.length := by rw [Nat.succ_mul]
    _ ≤ a.length * b.length := Nat.mul_le_mul_right _ (by omega)

set_option maxRecDepth 4000 in
set_option maxHeartbeats 2000000 in
theorem scale_plus_own (a b : List Span) (va vb : Value) (w : World) (ha : IsRow (fun t : Kr.Span => [.int .i64 t.lo, .int .i64 t.hi]) 2 w va a) (hb : IsRow (fun t : Kr.Span => [.int .i64 t.lo, .int .i64 t.hi]) 2 w vb b) (fa : Full a) (fb : Full b) (wa : Within 0 40000000000 a) (wb : Within 0 40000000000 b) (hl : a.length * b.length ≤ 1000000000000) :
    Calls Tryz.prog 66 #[va, vb] w fun e w' => ∃ v', e = .returned v' ∧ IsRow (fun t : Kr.Span => [.int .i64 t.lo, .int .i64 t.hi]) 2 w' v' (plus a b) ∧ w.Exts w' ∧ RowT 30 w' v' ∧ RowN w.heap.size v' := by
  obtain ⟨q1, b1, o1, cap1, rfl, hm1, hq1, hc1⟩ := ha.ex
  obtain ⟨q2, b2, o2, cap2, rfl, hm2, hq2, hc2⟩ := hb.ex
  have hcf := crossed_full fa fb
  have hcw : Within 0 100000000000 (crossed a b) := fun s hs => by have := crossed_within wa wb s hs; omega
  have hcl : (crossed a b).length ≤ 1000000000000 := by rw [crossed_len]; exact hl
  have HCF := Lib.hid hcf
  clear hcf
  have HCW := Lib.hid hcw
  clear hcw
  have HC1 := Lib.hid hc1
  clear hc1
  have HC2 := Lib.hid hc2
  clear hc2
  have HQ1 := Lib.hid hq1
  clear hq1
  have HQ2 := Lib.hid hq2
  clear hq2
  have FA := Lib.hid fa
  clear fa
  have FB := Lib.hid fb
  clear fb
  have WA := Lib.hid wa
  clear wa
  have WB := Lib.hid wb
  clear wb
  clear ha hb
  go_enter Tryz.func66, Tryz.ntmps66
  go_wp2_with fail
  go_loopw [5, 12] (fun out i wr => ∃ k : Nat, k ≤ a.length ∧ i = .int .i64 k ∧ Hid (wr.ownsRow w.heap.size 30 2 out (crossed (a.take k) b).length (spanCs (crossed (a.take k) b))) ∧ w.Exts wr) (fun _ i _ => a.length - (intOf i).toNat)
  case atStart => exact ⟨0, Nat.zero_le _, rfl, Lib.hid (World.ownsRow_nil _ _ _ _), (by repeat' (first | with_reducible exact World.Exts.refl _ | with_reducible refine World.Exts.alloc ?_ _ | with_reducible refine World.Exts.drew ?_ | with_reducible refine World.Exts.drewN ?_ _ | with_reducible refine World.Exts.ext ?_ _ | with_reducible refine World.Exts.setCell ?_ ?_ _ | (simp; done) | exact World.size_ext_le _ _ | (simp; omega)))⟩
  case round =>
    obtain ⟨k, hk, rfl, HO, hE⟩ := hrel
    obtain ⟨X, rfl⟩ := hE
    by_cases hlt : k < a.length
    · obtain ⟨rfl, hl1⟩ := HQ1.out (by omega)
      obtain ⟨s, hs⟩ := some_of_lt hlt
      have hcs := HC1.out k s hs
      have c0 := hcs 0 _ rfl
      have c1 := hcs 1 _ rfl
      simp only [Nat.add_zero] at c0 c1
      have hsw := WA.out s (List.mem_of_getElem? hs)
      have hsf := FA.out s (List.mem_of_getElem? hs)
      have hnk : crossed (a.take (k + 1)) b = crossed (a.take k) b ++ b.map (shift s) := by rw [take_snoc hs, crossed_snoc]
      have hlk := fun m (hm : m ≤ b.length) => crossed_take_len a b k m (shift s) hlt hm
      have HNK := Lib.hid hnk
      clear hnk
      have HLK := Lib.hid hlk
      clear hlk
      clear hs hcs HQ1
      go_wp2_with fail
      go_loopw [5, 18] (fun out i wr => ∃ m : Nat, m ≤ b.length ∧ i = .int .i64 m ∧ Hid (wr.ownsRow w.heap.size 30 2 out (crossed (a.take k) b ++ (b.take m).map (shift s)).length (spanCs (crossed (a.take k) b ++ (b.take m).map (shift s)))) ∧ w.Exts wr ∧ Hid (LaysAs wr (World.ext _ X).heap.size (.cells #[.int .i64 s.lo, .int .i64 s.hi] 30 (0, 0))) ∧ Hid (out.ownBlock ≠ some (World.ext _ X).heap.size)) (fun _ i _ => b.length - (intOf i).toNat)
      case atStart => exact ⟨0, Nat.zero_le _, rfl, Lib.hid (by simpa using ownsRow_exts HO.out (by repeat' (first | with_reducible exact World.Exts.refl _ | with_reducible refine World.Exts.alloc ?_ _ | with_reducible refine World.Exts.drew ?_ | with_reducible refine World.Exts.drewN ?_ _ | with_reducible refine World.Exts.ext ?_ _ | with_reducible refine World.Exts.setCell ?_ ?_ _ | (simp; done) | exact World.size_ext_le _ _ | (simp; omega)))), (by repeat' (first | with_reducible exact World.Exts.refl _ | with_reducible refine World.Exts.alloc ?_ _ | with_reducible refine World.Exts.drew ?_ | with_reducible refine World.Exts.drewN ?_ _ | with_reducible refine World.Exts.ext ?_ _ | with_reducible refine World.Exts.setCell ?_ ?_ _ | (simp; done) | exact World.size_ext_le _ _ | (simp; omega))), Lib.hid (LaysAs.new _ _), Lib.hid (own_not_new HO.out)⟩
      case round =>
        obtain ⟨m, hm, rfl, HO2, hE, HL, HN⟩ := hrel
        obtain ⟨X2, rfl⟩ := hE
        have e0 := HL.out.cell (cs := [.int .i64 s.lo, .int .i64 s.hi]) 0 _ rfl
        have e1 := HL.out.cell (cs := [.int .i64 s.lo, .int .i64 s.hi]) 1 _ rfl
        haveI := Lays.of_cell e0
        by_cases hlt2 : m < b.length
        · obtain ⟨rfl, hl2⟩ := HQ2.out (by omega)
          obtain ⟨t, ht⟩ := some_of_lt hlt2
          have hct := HC2.out m t ht
          have d0 := hct 0 _ rfl
          have d1 := hct 1 _ rfl
          simp only [Nat.add_zero] at d0 d1
          have htw := WB.out t (List.mem_of_getElem? ht)
          have htf := FB.out t (List.mem_of_getElem? ht)
          have hnx : crossed (a.take k) b ++ (b.take (m + 1)).map (shift s) = crossed (a.take k) b ++ (b.take m).map (shift s) ++ [⟨s.lo + t.lo, s.hi + t.hi⟩] := by rw [take_snoc ht, List.map_append, List.append_assoc]; rfl
          have hlm := HLK.out m hm
          generalize hL : crossed (a.take k) b ++ (b.take m).map (shift s) = L at hnx hlm HO2
          have HNX := Lib.hid hnx
          clear hnx
          clear ht hct HQ2 hL
          go_wp2_with (at_builtin; refine wpList_append1W (.tmp 22) (.tmp 34) elem_Span rfl rfl rfl (ownsRow_exts HO2.out (by repeat' (first | with_reducible exact World.Exts.refl _ | with_reducible refine World.Exts.alloc ?_ _ | with_reducible refine World.Exts.drew ?_ | with_reducible refine World.Exts.drewN ?_ _ | with_reducible refine World.Exts.ext ?_ _ | with_reducible refine World.Exts.setCell ?_ ?_ _ | (simp; done) | exact World.size_ext_le _ _ | (simp; omega)))) [.int .i64 (s.lo + t.lo), .int .i64 (s.hi + t.hi)] _ (by simp) rfl rfl ?h1 ?h2 ?h4 ?h3 ?_)
          case h1 => exact one_Span ⟨s.lo + t.lo, s.hi + t.hi⟩
          case h2 => omega
          case h4 => decide
          case h3 => exact World.Exts.size (by repeat' (first | with_reducible exact World.Exts.refl _ | with_reducible refine World.Exts.alloc ?_ _ | with_reducible refine World.Exts.drew ?_ | with_reducible refine World.Exts.drewN ?_ _ | with_reducible refine World.Exts.ext ?_ _ | with_reducible refine World.Exts.setCell ?_ ?_ _ | (simp; done) | exact World.size_ext_le _ _ | (simp; omega)))
          intro v' w' hown' happ
          have hE := happ.exts w (by repeat' (first | with_reducible exact World.Exts.refl _ | with_reducible refine World.Exts.alloc ?_ _ | with_reducible refine World.Exts.drew ?_ | with_reducible refine World.Exts.drewN ?_ _ | with_reducible refine World.Exts.ext ?_ _ | with_reducible refine World.Exts.setCell ?_ ?_ _ | (simp; done) | exact World.size_ext_le _ _ | (simp; omega))) (Nat.le_refl _)
          have hL2 := (HL.out.exts (by repeat' (first | with_reducible exact World.Exts.refl _ | with_reducible refine World.Exts.alloc ?_ _ | with_reducible refine World.Exts.drew ?_ | with_reducible refine World.Exts.drewN ?_ _ | with_reducible refine World.Exts.ext ?_ _ | with_reducible refine World.Exts.setCell ?_ ?_ _ | (simp; done) | exact World.size_ext_le _ _ | (simp; omega)))).appended happ HN.out
          have HO3 := Lib.hid hown'
          clear hown'
          have HE := Lib.hid hE
          clear hE
          have HL2 := Lib.hid hL2
          clear hL2
          clear happ
          go_wp2_with fail
          go_roundw
          case rel => exact ⟨m + 1, by omega, by go_num, Lib.hid (by rw [HNX.out, spanCs_snoc, List.length_append]; exact HO3.out), HE.out, Lib.hid HL2.out.1, Lib.hid HL2.out.2⟩
          case measure => simp [intOf]; omega
        · have hmb : m = b.length := by omega
          have hO := HO2.out
          rw [hmb, List.take_length, ← HNK.out] at hO
          have HO3 := Lib.hid hO
          clear hO
          clear hmb
          go_wp2_with fail
          go_roundw
          case rel => exact ⟨k + 1, by omega, by go_num, Lib.hid HO3.out, (by repeat' (first | with_reducible exact World.Exts.refl _ | with_reducible refine World.Exts.alloc ?_ _ | with_reducible refine World.Exts.drew ?_ | with_reducible refine World.Exts.drewN ?_ _ | with_reducible refine World.Exts.ext ?_ _ | with_reducible refine World.Exts.setCell ?_ ?_ _ | (simp; done) | exact World.size_ext_le _ _ | (simp; omega)))⟩
          case measure => simp [intOf]; omega
    · have hka : k = a.length := by omega
      have hO := HO.out
      rw [hka, List.take_length] at hO
      have hrw := row_spans hO
      have HRW := Lib.hid hrw
      clear hrw
      clear hka HO hO
      go_wp2_with (go_at_call 100; refine (scale_merged_Span_own (crossed a b) _ _ (HRW.out.mono (by repeat' (first | with_reducible exact World.Exts.refl _ | with_reducible refine World.Exts.alloc ?_ _ | with_reducible refine World.Exts.drew ?_ | with_reducible refine World.Exts.drewN ?_ _ | with_reducible refine World.Exts.ext ?_ _ | with_reducible refine World.Exts.setCell ?_ ?_ _ | (simp; done) | exact World.size_ext_le _ _ | (simp; omega)))) id 101 (enters_of Tryz.func101 (by kernel_rfl) rfl) (fun x _ W _ => scale_itself_any x W) (by rw [List.map_id]; exact HCF.out) (by rw [List.map_id]; exact HCW.out) hcl).mono ?_; rw [List.map_id]; rintro e w' ⟨v', rfl, hv, ⟨X2, rfl⟩, hvt, hvn⟩; obtain ⟨q, cp, rfl⟩ := hv.len; have HV := Lib.hid hv; have HVT := Lib.hid hvt; have HVN := Lib.hid hvn; clear hv hvt hvn)
      go_ret
      exact ⟨_, rfl, HV.out, (by repeat' (first | with_reducible exact World.Exts.refl _ | with_reducible refine World.Exts.alloc ?_ _ | with_reducible refine World.Exts.drew ?_ | with_reducible refine World.Exts.drewN ?_ _ | with_reducible refine World.Exts.ext ?_ _ | with_reducible refine World.Exts.setCell ?_ ?_ _ | (simp; done) | exact World.size_ext_le _ _ | (simp; omega))), HVT.out, HVN.out.le (World.Exts.size (by repeat' (first | with_reducible exact World.Exts.refl _ | with_reducible refine World.Exts.alloc ?_ _ | with_reducible refine World.Exts.drew ?_ | with_reducible refine World.Exts.drewN ?_ _ | with_reducible refine World.Exts.ext ?_ _ | with_reducible refine World.Exts.setCell ?_ ?_ _ | (simp; done) | exact World.size_ext_le _ _ | (simp; omega))))⟩
theorem scale_plus_any (a b : List Span) (va vb : Value) (w : World) (ha : IsRow (fun t : Kr.Span => [.int .i64 t.lo, .int .i64 t.hi]) 2 w va a) (hb : IsRow (fun t : Kr.Span => [.int .i64 t.lo, .int .i64 t.hi]) 2 w vb b) (fa : Full a) (fb : Full b) (wa : Within 0 40000000000 a) (wb : Within 0 40000000000 b) (hl : a.length * b.length ≤ 1000000000000) :
    Calls Tryz.prog 66 #[va, vb] w fun e w' => ∃ v', e = .returned v' ∧ IsRow (fun t : Kr.Span => [.int .i64 t.lo, .int .i64 t.hi]) 2 w' v' (plus a b) ∧ w.Exts w' :=
  (scale_plus_own a b va vb w ha hb fa fb wa wb hl).mono fun _ _ ⟨v', h1, h2, h3, _⟩ => ⟨v', h1, h2, h3⟩
end Go.Proofs.YtomcenfikdmmkaaGreatDoor
