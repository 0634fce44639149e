/-
  Walks of package scale: the fewest spans of things.
-/
import Derived.Test.YtomcenfikdmmkaaGreatDoorTc
import Derived.Test.YtomcenfikdmmkaaGreatDoorBt
import Derived.Test.YtomcenfikdmmkaaGreatDoorSortB
namespace Go.Proofs.YtomcenfikdmmkaaGreatDoor
open Go.RowKit Kr

/-- A slice's own block is new. -/
def RowN (n0 : Nat) (v : Value) : Prop := ∀ b, v.ownBlock = some b → n0 ≤ b
theorem RowN.le {n0 n1 : Nat} {v : Value} (h : RowN n0 v) (hn : n1 ≤ n0) : RowN n1 v := fun b hb => Nat.le_trans hn (h b hb)

set_option maxRecDepth 4000 in
set_option maxHeartbeats 4000000 in
theorem scale_merged_Span_own (xs : List Span) (v : Value) (w : World) (hrow : IsRow (fun t : Kr.Span => [.int .i64 t.lo, .int .i64 t.hi]) 2 w v xs) (f : Span → Span) (g : Nat) (eg : ∀ args w, (callFunc g args).run Tryz.prog w = .ok (.enter g args) w)
    (hf : ∀ x ∈ xs, ∀ W, w.Exts W → Calls Tryz.prog g #[(fun t : Kr.Span => .agg #[.int .i64 t.lo, .int .i64 t.hi]) x] W fun e W' => e = .returned (.agg #[.int .i64 (f x).lo, .int .i64 (f x).hi]) ∧ W.Exts W') (hfull : Full (xs.map f)) (hin : Within 0 100000000000 (xs.map f)) (hlen : xs.length ≤ 1000000000000) :
    Calls Tryz.prog 100 #[v, .func (.func g) #[] #[]] w fun e w' => ∃ v', e = .returned v' ∧ IsRow (fun t : Kr.Span => [.int .i64 t.lo, .int .i64 t.hi]) 2 w' v' (merged (xs.map f)) ∧ w.Exts w' ∧ RowT 30 w' v' ∧ RowN w.heap.size v' := by
  obtain ⟨q, b, o, cap, rfl, hm, hq, hc⟩ := hrow.ex
  have HC := Lib.hid hc
  clear hc
  have HQ := Lib.hid hq
  clear hq
  have HF := Lib.hid hf
  clear hf
  have HFULL := Lib.hid hfull
  clear hfull
  have HIN := Lib.hid hin
  clear hin
  clear hrow
  go_enter Tryz.func100, Tryz.ntmps100
  go_wp2_with fail
  go_loopw [5, 14] (fun all i wr => ∃ k : Nat, k ≤ xs.length ∧ i = .int .i64 k ∧ Hid (wr.ownsRow w.heap.size 30 2 all ((xs.take k).map f).length (spanCs ((xs.take k).map f))) ∧ w.Exts wr) (fun _ i _ => xs.length - (intOf i).toNat)
  case atStart => exact ⟨0, Nat.zero_le _, rfl, Lib.hid (World.ownsRow_nil _ _ _ _), World.Exts.refl _⟩
  case round =>
    obtain ⟨k, hk, rfl, HO, hE⟩ := hrel
    obtain ⟨X, rfl⟩ := hE
    by_cases hlt : k < xs.length
    · obtain ⟨rfl, hl⟩ := HQ.out (by omega)
      obtain ⟨x, hx⟩ := some_of_lt hlt
      have hcs := HC.out k x hx
      have c0 := hcs 0 _ rfl
      have c1 := hcs 1 _ rfl
      simp only [Nat.add_zero] at c0 c1
      have hcall := HF.out x (List.mem_of_getElem? hx)
      have hnx : (xs.take (k + 1)).map f = (xs.take k).map f ++ [f x] := by rw [take_snoc hx, List.map_append, List.map_singleton]
      have hlk : ((xs.take k).map f).length = k := by rw [List.length_map, List.length_take]; omega
      have HNX := Lib.hid hnx
      clear hnx
      have HCALL := Lib.hid hcall
      clear hcall
      have HLK := Lib.hid hlk
      clear hlk
      clear hx hcs HQ HC HF
      go_wp2_with (first
        | (go_at_fn g; refine (HCALL.out _ (by repeat' (first | with_reducible exact World.Exts.refl _ | with_reducible refine World.Exts.alloc ?_ _ | with_reducible refine World.Exts.drew ?_ | with_reducible refine World.Exts.drewN ?_ _ | with_reducible refine World.Exts.ext ?_ _ | with_reducible refine World.Exts.setCell ?_ ?_ _ | (simp; done) | exact World.size_ext_le _ _ | (simp; omega)))).mono ?_; rintro e w' ⟨rfl, X2, rfl⟩)
        | (at_builtin; refine wpList_append1L (.tmp 18) (.tmp 22) elem_Span rfl rfl rfl (ownsRow_exts HO.out (by repeat' (first | with_reducible exact World.Exts.refl _ | with_reducible refine World.Exts.alloc ?_ _ | with_reducible refine World.Exts.drew ?_ | with_reducible refine World.Exts.drewN ?_ _ | with_reducible refine World.Exts.ext ?_ _ | with_reducible refine World.Exts.setCell ?_ ?_ _ | (simp; done) | exact World.size_ext_le _ _ | (simp; omega)))) [.int .i64 (f x).lo, .int .i64 (f x).hi] _ rfl rfl rfl ?h1 ?h2 ?h4 ?h3 ?_))
      case h1 => exact one_Span _
      case h2 => rw [HLK.out]; omega
      case h4 => decide
      case h3 => exact World.Exts.size (by repeat' (first | with_reducible exact World.Exts.refl _ | with_reducible refine World.Exts.alloc ?_ _ | with_reducible refine World.Exts.drew ?_ | with_reducible refine World.Exts.drewN ?_ _ | with_reducible refine World.Exts.ext ?_ _ | with_reducible refine World.Exts.setCell ?_ ?_ _ | (simp; done) | exact World.size_ext_le _ _ | (simp; omega)))
      intro v' w' hown' happ
      have hE := happ.exts w (by repeat' (first | with_reducible exact World.Exts.refl _ | with_reducible refine World.Exts.alloc ?_ _ | with_reducible refine World.Exts.drew ?_ | with_reducible refine World.Exts.drewN ?_ _ | with_reducible refine World.Exts.ext ?_ _ | with_reducible refine World.Exts.setCell ?_ ?_ _ | (simp; done) | exact World.size_ext_le _ _ | (simp; omega))) (Nat.le_refl _)
      have HO3 := Lib.hid hown'
      clear hown'
      have HE := Lib.hid hE
      clear hE
      clear happ
      go_wp2_with fail
      go_roundw
      case rel => exact ⟨k + 1, by omega, by go_num, Lib.hid (by rw [HNX.out, spanCs_snoc, List.length_append, HLK.out]; simpa using HO3.out), HE.out⟩
      case measure => simp [intOf]; omega
    · have hkn : k = xs.length := by omega
      have hO := HO.out
      rw [hkn, List.take_length, List.length_map] at hO
      have HO2 := Lib.hid hO
      clear hO
      clear hkn HO
      go_wp2_with fail
      refine (sort_spans w.heap.size _ (xs.map f) _ (by rw [List.length_map]; exact HO2.out) HIN.out HFULL.out (by rw [List.length_map]; exact hlen)).mono ?_
      rintro e w' ⟨rfl, ys, hperm, hbylo, hownS, hexS⟩
      have hEw2 := hexS w (by repeat' (first | with_reducible exact World.Exts.refl _ | with_reducible refine World.Exts.alloc ?_ _ | with_reducible refine World.Exts.drew ?_ | with_reducible refine World.Exts.drewN ?_ _ | with_reducible refine World.Exts.ext ?_ _ | with_reducible refine World.Exts.setCell ?_ ?_ _ | (simp; done) | exact World.size_ext_le _ _ | (simp; omega))) (Nat.le_refl _)
      have hysl : ys.length = xs.length := by rw [hperm.length_eq, List.length_map]
      have hyf : ∀ s ∈ ys, s.lo ≤ s.hi ∧ 0 ≤ s.lo ∧ s.hi ≤ 100000000000 := fun s hs => ⟨HFULL.out s (hperm.mem_iff.1 hs), (HIN.out s (hperm.mem_iff.1 hs)).1, (HIN.out s (hperm.mem_iff.1 hs)).2⟩
      have hfin := merged_of hperm hbylo HFULL.out
      have hrowS := row_spans (l := ys) (by rw [hysl]; rw [List.length_map] at hownS; exact hownS)
      have hyb : ys.length ≤ 1000000000000 := by rw [hysl]; exact hlen
      have HYSL := Lib.hid hysl
      clear hysl
      have HYF := Lib.hid hyf
      clear hyf
      have HFIN := Lib.hid hfin
      clear hfin
      obtain ⟨qs, bs, os, caps, rfl, hms, hqs, hcss⟩ := hrowS.ex
      have HQS := Lib.hid hqs
      clear hqs
      have HCS := Lib.hid hcss
      clear hcss
      obtain ⟨X2, rfl⟩ := hEw2
      clear hperm hbylo hownS hexS hrowS
      go_wp2_with fail
      go_loopw [8, 29] (fun few i wr => ∃ k : Nat, k ≤ ys.length ∧ i = .int .i64 k ∧ Hid (wr.ownsRow (w.ext X2).heap.size 30 2 few ((ys.take k).foldl push []).length (spanCs ((ys.take k).foldl push []))) ∧ (w.ext X2).Exts wr) (fun _ i _ => ys.length - (intOf i).toNat)
      case atStart => exact ⟨0, Nat.zero_le _, rfl, Lib.hid (World.ownsRow_nil _ _ _ _), (by repeat' (first | with_reducible exact World.Exts.refl _ | with_reducible refine World.Exts.alloc ?_ _ | with_reducible refine World.Exts.drew ?_ | with_reducible refine World.Exts.drewN ?_ _ | with_reducible refine World.Exts.ext ?_ _ | with_reducible refine World.Exts.setCell ?_ ?_ _ | (simp; done) | exact World.size_ext_le _ _ | (simp; omega)))⟩
      case round =>
        obtain ⟨k2, hk2, rfl, HO, hE⟩ := hrel
        obtain ⟨X, rfl⟩ := hE
        by_cases hlt2 : k2 < ys.length
        · obtain ⟨rfl, hl⟩ := HQS.out (by omega)
          obtain ⟨s, hs⟩ := some_of_lt hlt2
          have hcs := HCS.out k2 s hs
          have c0 := hcs 0 _ rfl
          have c1 := hcs 1 _ rfl
          simp only [Nat.add_zero] at c0 c1
          obtain ⟨hs1, hs2, hs3⟩ := HYF.out s (List.mem_of_getElem? hs)
          have hnx : (ys.take (k2 + 1)).foldl push [] = push ((ys.take k2).foldl push []) s := by rw [take_snoc hs, List.foldl_append]; rfl
          have hfl : ((ys.take k2).foldl push []).length ≤ k2 := by
            have h := push_len (ys.take k2) []
            rw [List.length_take] at h; simp at h; omega
          have hfb : ∀ y ∈ (ys.take k2).foldl push [], 0 ≤ y.hi ∧ y.hi ≤ 100000000000 := fold_hi (fun y hy => by have := HYF.out y (List.mem_of_mem_take hy); omega)
          generalize (ys.take k2).foldl push [] = fs at hnx hfl hfb HO
          have HNX := Lib.hid hnx
          clear hnx
          clear hs hcs HQS HCS HYF
          rcases snoc_cases fs with rfl | ⟨r, kk, rfl⟩
          · obtain ⟨pf, cf, rfl⟩ := owns_len HO.out
            simp only [List.length_nil] at *
            go_wp2_with fail
            refine wp_region_ext (by kernel_rfl) (by kernel_rfl) ?_
            repeat (go_big_quiet_step (fail))
            refine wpQuiet_nil ?_
            rintro _ ⟨X, rfl⟩
            go_wp2_with (at_builtin; refine wpList_append1L (.tmp 63) (.tmp 65) elem_Span rfl rfl rfl (ownsRow_exts HO.out (by repeat' (first | with_reducible exact World.Exts.refl _ | with_reducible refine World.Exts.alloc ?_ _ | with_reducible refine World.Exts.drew ?_ | with_reducible refine World.Exts.drewN ?_ _ | with_reducible refine World.Exts.ext ?_ _ | with_reducible refine World.Exts.setCell ?_ ?_ _ | (simp; done) | exact World.size_ext_le _ _ | (simp; omega)))) [.int .i64 s.lo, .int .i64 s.hi] _ rfl rfl rfl ?h1 ?h2 ?h4 ?h3 ?_)
            case h1 => exact one_Span _
            case h2 => omega
            case h4 => decide
            case h3 => exact World.Exts.size (by repeat' (first | with_reducible exact World.Exts.refl _ | with_reducible refine World.Exts.alloc ?_ _ | with_reducible refine World.Exts.drew ?_ | with_reducible refine World.Exts.drewN ?_ _ | with_reducible refine World.Exts.ext ?_ _ | with_reducible refine World.Exts.setCell ?_ ?_ _ | (simp; done) | exact World.size_ext_le _ _ | (simp; omega)))
            intro v' w' hown' happ
            have hE := happ.exts (w.ext X2) (by repeat' (first | with_reducible exact World.Exts.refl _ | with_reducible refine World.Exts.alloc ?_ _ | with_reducible refine World.Exts.drew ?_ | with_reducible refine World.Exts.drewN ?_ _ | with_reducible refine World.Exts.ext ?_ _ | with_reducible refine World.Exts.setCell ?_ ?_ _ | (simp; done) | exact World.size_ext_le _ _ | (simp; omega))) (Nat.le_refl _)
            have HO3 := Lib.hid hown'
            clear hown'
            have HE := Lib.hid hE
            clear hE
            clear happ
            go_wp2_with fail
            go_roundw
            case rel => exact ⟨k2 + 1, by omega, by go_num, Lib.hid (by rw [HNX.out]; simpa [push_nil, spanCs] using HO3.out), HE.out⟩
            case measure => simp [intOf]; omega
          · obtain ⟨g2, cf, rfl, hbg, hlg⟩ := owns_form HO.out (by simp)
            have hkk := hfb kk (by simp)
            have hlr : (r ++ [kk]).length = r.length + 1 := by simp
            have e1 : (World.ext _ X).cell? ⟨g2, r.length * 2 + 1, none⟩ = some (.int .i64 kk.hi) := by rw [HO.out.cellAt _ (by rw [hlr]; omega)]; exact spanCs_at r kk 1 _ rfl
            have f1 := HO.out.frozenAt (r.length * 2 + 1)
            haveI := Lays.of_cell e1
            rw [hlr] at HO hfl ⊢
            clear hfb hlr
            rcases Int.lt_or_le (kk.hi + 1) s.lo with hc | hc
            · go_wp2_with fail
              refine wp_region_ext (by kernel_rfl) (by kernel_rfl) ?_
              repeat (go_big_quiet_step (fail))
              refine wpQuiet_nil ?_
              rintro _ ⟨X, rfl⟩
              go_wp2_with (at_builtin; refine wpList_append1L (.tmp 63) (.tmp 65) elem_Span rfl rfl rfl (ownsRow_exts HO.out (by repeat' (first | with_reducible exact World.Exts.refl _ | with_reducible refine World.Exts.alloc ?_ _ | with_reducible refine World.Exts.drew ?_ | with_reducible refine World.Exts.drewN ?_ _ | with_reducible refine World.Exts.ext ?_ _ | with_reducible refine World.Exts.setCell ?_ ?_ _ | (simp; done) | exact World.size_ext_le _ _ | (simp; omega)))) [.int .i64 s.lo, .int .i64 s.hi] _ rfl rfl rfl ?h1 ?h2 ?h4 ?h3 ?_)
              case h1 => exact one_Span _
              case h2 => omega
              case h4 => decide
              case h3 => exact World.Exts.size (by repeat' (first | with_reducible exact World.Exts.refl _ | with_reducible refine World.Exts.alloc ?_ _ | with_reducible refine World.Exts.drew ?_ | with_reducible refine World.Exts.drewN ?_ _ | with_reducible refine World.Exts.ext ?_ _ | with_reducible refine World.Exts.setCell ?_ ?_ _ | (simp; done) | exact World.size_ext_le _ _ | (simp; omega)))
              intro v' w' hown' happ
              have hE := happ.exts (w.ext X2) (by repeat' (first | with_reducible exact World.Exts.refl _ | with_reducible refine World.Exts.alloc ?_ _ | with_reducible refine World.Exts.drew ?_ | with_reducible refine World.Exts.drewN ?_ _ | with_reducible refine World.Exts.ext ?_ _ | with_reducible refine World.Exts.setCell ?_ ?_ _ | (simp; done) | exact World.size_ext_le _ _ | (simp; omega))) (Nat.le_refl _)
              have HO3 := Lib.hid hown'
              clear hown'
              have HE := Lib.hid hE
              clear hE
              clear happ
              go_wp2_with fail
              go_roundw
              case rel => exact ⟨k2 + 1, by omega, by go_num, Lib.hid (by rw [HNX.out, push_snoc, if_neg (by omega), spanCs_snoc, List.length_append, List.length_append]; exact HO3.out), HE.out⟩
              case measure => simp [intOf]; omega
            · rcases Int.lt_or_le kk.hi s.hi with hm1 | hm1
              · go_wp2_with fail
                refine wp_region_ext (by kernel_rfl) (by kernel_rfl) ?_
                repeat (go_big_quiet_step (fail))
                refine wpQuiet_nil ?_
                rintro _ ⟨X, rfl⟩
                go_wp2_with fail
                refine wp_region_ext_tail 14 (by kernel_rfl) (by kernel_rfl) ?_
                simp only [List.take_succ_cons, List.take_zero, List.drop_succ_cons, List.drop_zero]
                repeat (go_big_quiet_step (fail))
                refine wpQuiet_nil ?_
                rintro _ ⟨X, rfl⟩
                go_wp2_with fail
                go_roundw
                case rel => exact ⟨k2 + 1, by omega, by go_num, Lib.hid (by rw [HNX.out, push_snoc, if_pos (by omega), List.length_append, ← spanCs_set, Int.max_eq_right (by omega)]; exact ((ownsRow_exts HO.out (by repeat' (first | with_reducible exact World.Exts.refl _ | with_reducible refine World.Exts.alloc ?_ _ | with_reducible refine World.Exts.drew ?_ | with_reducible refine World.Exts.drewN ?_ _ | with_reducible refine World.Exts.ext ?_ _ | with_reducible refine World.Exts.setCell ?_ ?_ _ | (simp; done) | exact World.size_ext_le _ _ | (simp; omega)))).stored _ _).1), (by repeat' (first | with_reducible exact World.Exts.refl _ | with_reducible refine World.Exts.alloc ?_ _ | with_reducible refine World.Exts.drew ?_ | with_reducible refine World.Exts.drewN ?_ _ | with_reducible refine World.Exts.ext ?_ _ | with_reducible refine World.Exts.setCell ?_ ?_ _ | (simp; done) | exact World.size_ext_le _ _ | (simp; omega)))⟩
                case measure => simp [intOf]; omega
              · go_wp2_with fail
                refine wp_region_ext (by kernel_rfl) (by kernel_rfl) ?_
                repeat (go_big_quiet_step (fail))
                refine wpQuiet_nil ?_
                rintro _ ⟨X, rfl⟩
                go_wp2_with fail
                refine wp_region_ext_tail 14 (by kernel_rfl) (by kernel_rfl) ?_
                simp only [List.take_succ_cons, List.take_zero, List.drop_succ_cons, List.drop_zero]
                repeat (go_big_quiet_step (fail))
                refine wpQuiet_nil ?_
                rintro _ ⟨X, rfl⟩
                go_wp2_with fail
                go_roundw
                case rel => exact ⟨k2 + 1, by omega, by go_num, Lib.hid (by rw [HNX.out, push_snoc, if_pos (by omega), List.length_append, ← spanCs_set, Int.max_eq_left (by omega)]; exact ((ownsRow_exts HO.out (by repeat' (first | with_reducible exact World.Exts.refl _ | with_reducible refine World.Exts.alloc ?_ _ | with_reducible refine World.Exts.drew ?_ | with_reducible refine World.Exts.drewN ?_ _ | with_reducible refine World.Exts.ext ?_ _ | with_reducible refine World.Exts.setCell ?_ ?_ _ | (simp; done) | exact World.size_ext_le _ _ | (simp; omega)))).stored _ _).1), (by repeat' (first | with_reducible exact World.Exts.refl _ | with_reducible refine World.Exts.alloc ?_ _ | with_reducible refine World.Exts.drew ?_ | with_reducible refine World.Exts.drewN ?_ _ | with_reducible refine World.Exts.ext ?_ _ | with_reducible refine World.Exts.setCell ?_ ?_ _ | (simp; done) | exact World.size_ext_le _ _ | (simp; omega)))⟩
                case measure => simp [intOf]; omega
        · have hkn2 : k2 = ys.length := by omega
          have hO := HO.out
          rw [hkn2, List.take_length, HFIN.out] at hO
          have HO3 := Lib.hid hO
          clear hO
          clear hkn2
          go_wp2_with fail
          go_ret
          exact ⟨_, rfl, row_spans HO3.out, (by repeat' (first | with_reducible exact World.Exts.refl _ | with_reducible refine World.Exts.alloc ?_ _ | with_reducible refine World.Exts.drew ?_ | with_reducible refine World.Exts.drewN ?_ _ | with_reducible refine World.Exts.ext ?_ _ | with_reducible refine World.Exts.setCell ?_ ?_ _ | (simp; done) | exact World.size_ext_le _ _ | (simp; omega))), RowT.of_owns HO3.out, fun b hb => Nat.le_trans (World.Exts.size (World.Exts.refl w |>.ext X2)) (HO3.out.lt b hb).1⟩
theorem scale_merged_Span_any (xs : List Span) (v : Value) (w : World) (hrow : IsRow (fun t : Kr.Span => [.int .i64 t.lo, .int .i64 t.hi]) 2 w v xs) (f : Span → Span) (g : Nat) (eg : ∀ args w, (callFunc g args).run Tryz.prog w = .ok (.enter g args) w)
    (hf : ∀ x ∈ xs, ∀ W, w.Exts W → Calls Tryz.prog g #[(fun t : Kr.Span => .agg #[.int .i64 t.lo, .int .i64 t.hi]) x] W fun e W' => e = .returned (.agg #[.int .i64 (f x).lo, .int .i64 (f x).hi]) ∧ W.Exts W') (hfull : Full (xs.map f)) (hin : Within 0 100000000000 (xs.map f)) (hlen : xs.length ≤ 1000000000000) :
    Calls Tryz.prog 100 #[v, .func (.func g) #[] #[]] w fun e w' => ∃ v', e = .returned v' ∧ IsRow (fun t : Kr.Span => [.int .i64 t.lo, .int .i64 t.hi]) 2 w' v' (merged (xs.map f)) ∧ w.Exts w' :=
  (scale_merged_Span_own xs v w hrow f g eg hf hfull hin hlen).mono fun _ _ ⟨v', h1, h2, h3, _⟩ => ⟨v', h1, h2, h3⟩
end Go.Proofs.YtomcenfikdmmkaaGreatDoor
