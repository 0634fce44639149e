/-
  Walks of package scale and of its reference: the scales that are used.
-/
import Derived.Test.YtomcenfikdmmkaaGreatDoorTm
import Derived.Test.YtomcenfikdmmkaaGreatDoorPl
import Derived.Test.YtomcenfikdmmkaaGreatDoorBt
namespace Go.Proofs.YtomcenfikdmmkaaGreatDoor
open Go.RowKit Kr
set_option linter.unusedSimpArgs false

def usedBay (ls : List Load) (ts : List (Kr.Scale × Value)) : List (Kr.Scale × Value) := ts.filter fun x => usedB ls x.1
theorem usedBay_fst (ls : List Load) (ts : List (Kr.Scale × Value)) : (usedBay ls ts).map Prod.fst = used (ts.map Prod.fst) ls := by
  unfold usedBay used; rw [List.filter_map]; rfl
theorem usedBay_snoc {ls : List Load} {ts : List (Kr.Scale × Value)} {k : Nat} {x : Kr.Scale × Value} (hx : ts[k]? = some x) : usedBay ls (ts.take (k + 1)) = if usedB ls x.1 then usedBay ls (ts.take k) ++ [x] else usedBay ls (ts.take k) := by
  unfold usedBay; rw [take_snoc hx, List.filter_append]
  cases h : usedB ls x.1 <;> simp [h]
theorem usedBay_len (ls : List Load) (ts : List (Kr.Scale × Value)) (k : Nat) : (usedBay ls (ts.take k)).length ≤ ts.length := by
  unfold usedBay
  refine Nat.le_trans (List.length_filter_le _ _) ?_
  rw [List.length_take]; omega
theorem usedB_part {ls : List Load} {s : Scale} {m : Nat} {l : Load} (hl : ls[m]? = some l) : usedB (ls.take (m + 1)) s = (usedB (ls.take m) s || l.scale == s.id) := by
  unfold usedB; rw [take_snoc hl, List.any_append]; simp
theorem usedB_hit {ls : List Load} {s : Scale} {m : Nat} {l : Load} (hl : ls[m]? = some l) (h : l.scale = s.id) : usedB ls s = true := by
  unfold usedB; rw [List.any_eq_true]; exact ⟨l, List.mem_of_getElem? hl, by simpa using h⟩
theorem one_Scale (x : Kr.Scale × Value) (q : Option Addr) (n c : Nat) (h : x.2 = .slice q n c) : ∀ u ∈ scaleEnc x, u.oneCell' = true := by
  intro u hu
  simp [scaleEnc, h] at hu
  rcases hu with rfl | rfl | rfl | rfl | rfl | rfl | rfl <;> rfl

set_option maxRecDepth 4000 in
set_option maxHeartbeats 2000000 in
theorem r04_used_any (ts : List (Kr.Scale × Value)) (v : Value) (g : Gear) (lv rv sv : Value) (w : World) (hb : BayAt w v ts) (hg : GearAt w (g, lv, rv, sv)) (hn : ts.length ≤ 1000) :
    Calls Tryz.prog 72 #[.agg #[v], .agg #[lv, .int .i64 g.added, .int .i64 g.base, .int .i64 g.jitter, rv, sv, .int .i64 g.spread, .bool g.stamp]] w fun e w' => ∃ v', e = .returned v' ∧ BayAt w' v' (usedBay g.loads ts) ∧ w.Exts w' := by
  have hfin : usedBay g.loads (ts.take ts.length) = usedBay g.loads ts := by rw [List.take_length]
  obtain ⟨p, b, o, cap, rfl, hm, hp, hc⟩ := hb.row.ex
  obtain ⟨pl, bl, ol, capl, hlv, hml, hpl, hcl⟩ := hg.l.ex
  dsimp only at hlv hml hpl hcl
  subst hlv
  have htr := hb.tr
  have HC := Lib.hid hc
  clear hc
  have HP := Lib.hid hp
  clear hp
  have HCL := Lib.hid hcl
  clear hcl
  have HPL := Lib.hid hpl
  clear hpl
  have HTR := Lib.hid htr
  clear htr
  have HFIN := Lib.hid hfin
  clear hfin
  clear hb hg
  go_enter Tryz.func72, Tryz.ntmps72
  go_wp2_with fail
  go_loopw [5, 6] (fun out i wr => ∃ k : Nat, k ≤ ts.length ∧ i = .int .i64 k ∧ Hid (wr.ownsRow (w.heap.size + 2) 69 7 out (usedBay g.loads (ts.take k)).length ((usedBay g.loads (ts.take k)).flatMap scaleEnc)) ∧ ((w.alloc (.cells #[.slice p ts.length cap] 24)).alloc (.cells #[.slice pl g.loads.length capl, .int .i64 g.added, .int .i64 g.base, .int .i64 g.jitter, rv, sv, .int .i64 g.spread, .bool g.stamp] 28)).Exts wr) (fun _ i _ => ts.length - (intOf i).toNat)
  case atStart => exact ⟨0, Nat.zero_le _, rfl, Lib.hid (World.ownsRow_nil _ _ _ _), (by repeat' (first | with_reducible exact World.Exts.refl _ | with_reducible refine World.Exts.alloc ?_ _ | with_reducible refine World.Exts.drew ?_ | with_reducible refine World.Exts.drewN ?_ _ | with_reducible refine World.Exts.ext ?_ _ | with_reducible refine World.Exts.setCell ?_ ?_ _ | (simp; done) | exact World.size_ext_le _ _ | (simp; omega)))⟩
  case round =>
    obtain ⟨k, hk, rfl, HO, hE⟩ := hrel
    obtain ⟨X, rfl⟩ := hE
    by_cases hlt : k < ts.length
    · obtain ⟨rfl, hlay⟩ := HP.out (by omega)
      obtain ⟨⟨s, sv2⟩, hx⟩ := some_of_lt hlt
      have htx := HTR.out _ (List.mem_of_getElem? hx)
      dsimp only at htx
      obtain ⟨q1, cp1, rfl⟩ := htx.len
      have hcs := HC.out k _ hx
      have c0 := hcs 0 _ rfl
      have c1 := hcs 1 _ rfl
      have c2 := hcs 2 _ rfl
      have c3 := hcs 3 _ rfl
      have c4 := hcs 4 _ rfl
      have c5 := hcs 5 _ rfl
      have c6 := hcs 6 _ rfl
      simp only [Nat.add_zero] at c0 c1 c2 c3 c4 c5 c6
      have hnx := usedBay_snoc (ls := g.loads) hx
      dsimp only at hnx
      have hlen := usedBay_len g.loads ts k
      generalize usedBay g.loads (ts.take k) = U at hnx hlen HO
      have HN := Lib.hid hnx
      clear hnx
      clear hx hcs htx
      go_wp2_with fail
      go_loopw [5, 7] (fun so j wr => ∃ m : Nat, m ≤ g.loads.length ∧ j = .int .i64 m ∧ Hid (usedB (g.loads.take m) s = false) ∧ Hid (wr.ownsRow (w.heap.size + 2) 69 7 so U.length (U.flatMap scaleEnc)) ∧ (((w.alloc (.cells #[.slice (some ⟨b, o, none⟩) ts.length cap] 24)).alloc (.cells #[.slice pl g.loads.length capl, .int .i64 g.added, .int .i64 g.base, .int .i64 g.jitter, rv, sv, .int .i64 g.spread, .bool g.stamp] 28)).ext X).Exts wr) (fun _ j _ => g.loads.length - (intOf j).toNat)
      case atStart => exact ⟨0, Nat.zero_le _, rfl, Lib.hid rfl, Lib.hid (ownsRow_exts HO.out (by repeat' (first | with_reducible exact World.Exts.refl _ | with_reducible refine World.Exts.alloc ?_ _ | with_reducible refine World.Exts.drew ?_ | with_reducible refine World.Exts.drewN ?_ _ | with_reducible refine World.Exts.ext ?_ _ | with_reducible refine World.Exts.setCell ?_ ?_ _ | (simp; done) | exact World.size_ext_le _ _ | (simp; omega)))), (by repeat' (first | with_reducible exact World.Exts.refl _ | with_reducible refine World.Exts.alloc ?_ _ | with_reducible refine World.Exts.drew ?_ | with_reducible refine World.Exts.drewN ?_ _ | with_reducible refine World.Exts.ext ?_ _ | with_reducible refine World.Exts.setCell ?_ ?_ _ | (simp; done) | exact World.size_ext_le _ _ | (simp; omega)))⟩
      case round =>
        clear HO
        obtain ⟨m, hm1, rfl, HU, HO, hE⟩ := hrel
        obtain ⟨X1, rfl⟩ := hE
        by_cases hmlt : m < g.loads.length
        · obtain ⟨rfl, hlay2⟩ := HPL.out (by omega)
          obtain ⟨l, hl⟩ := some_of_lt hmlt
          have hcs := HCL.out m l hl
          have d0 := hcs 0 _ rfl
          simp only [Nat.add_zero] at d0
          have hup := usedB_part (s := s) hl
          rw [HU.out] at hup
          cases hq : l.scale == s.id
          · rw [hq] at hup
            have HUP := Lib.hid hup
            clear hup
            clear hl hcs
            go_wp2_with fail
            refine wp_region_ext (by kernel_rfl) (by kernel_rfl) ?_
            repeat (go_big_quiet_step (fail))
            refine wpQuiet_nil ?_
            rintro _ ⟨X, rfl⟩
            go_wp2_with fail
            go_roundw
            case rel => exact ⟨m + 1, by omega, by go_num, Lib.hid HUP.out, Lib.hid (ownsRow_exts HO.out (by repeat' (first | with_reducible exact World.Exts.refl _ | with_reducible refine World.Exts.alloc ?_ _ | with_reducible refine World.Exts.drew ?_ | with_reducible refine World.Exts.drewN ?_ _ | with_reducible refine World.Exts.ext ?_ _ | with_reducible refine World.Exts.setCell ?_ ?_ _ | (simp; done) | exact World.size_ext_le _ _ | (simp; omega)))), (by repeat' (first | with_reducible exact World.Exts.refl _ | with_reducible refine World.Exts.alloc ?_ _ | with_reducible refine World.Exts.drew ?_ | with_reducible refine World.Exts.drewN ?_ _ | with_reducible refine World.Exts.ext ?_ _ | with_reducible refine World.Exts.setCell ?_ ?_ _ | (simp; done) | exact World.size_ext_le _ _ | (simp; omega)))⟩
            case measure => simp [intOf]; omega
          · have hall := usedB_hit hl (by simpa using hq)
            have hz0 := World.size_ext_le _ X
            have hz1 := World.size_ext_le _ X1
            simp at hz0 hz1
            have HA := Lib.hid hall
            clear hall
            clear hl hcs hup
            go_wp2_with fail
            refine wp_region_ext (by kernel_rfl) (by kernel_rfl) ?_
            repeat (go_big_quiet_step (fail))
            refine wpQuiet_nil ?_
            rintro _ ⟨X, rfl⟩
            go_wp2_with (at_builtin; refine wpList_append1W (.tmp 35) (.tmp 41) elem_Scale rfl rfl rfl (ownsRow_exts HO.out (by repeat' (first | with_reducible exact World.Exts.refl _ | with_reducible refine World.Exts.alloc ?_ _ | with_reducible refine World.Exts.drew ?_ | with_reducible refine World.Exts.drewN ?_ _ | with_reducible refine World.Exts.ext ?_ _ | with_reducible refine World.Exts.setCell ?_ ?_ _ | (simp; done) | exact World.size_ext_le _ _ | (simp; omega)))) [.int .i64 s.id, .int .i64 s.step, .int .i64 s.gain.lo, .int .i64 s.gain.hi, .int .i64 s.off.lo, .int .i64 s.off.hi, .slice q1 s.trials.length cp1] _ (by simp) rfl rfl ?h1 ?h2 ?h4 ?h3 ?_)
            case h1 => exact one_Scale (s, .slice q1 s.trials.length cp1) _ _ _ rfl
            case h2 => omega
            case h4 => decide
            case h3 =>
              have h1 := World.size_ext_le _ X
              simp at h1 ⊢
              omega
            intro v' w' hown' happ
            have hE := happ.exts ((w.alloc (.cells #[.slice (some ⟨b, o, none⟩) ts.length cap] 24)).alloc (.cells #[.slice (some ⟨bl, ol, none⟩) g.loads.length capl, .int .i64 g.added, .int .i64 g.base, .int .i64 g.jitter, rv, sv, .int .i64 g.spread, .bool g.stamp] 28)) (by repeat' (first | with_reducible exact World.Exts.refl _ | with_reducible refine World.Exts.alloc ?_ _ | with_reducible refine World.Exts.drew ?_ | with_reducible refine World.Exts.drewN ?_ _ | with_reducible refine World.Exts.ext ?_ _ | with_reducible refine World.Exts.setCell ?_ ?_ _ | (simp; done) | exact World.size_ext_le _ _ | (simp; omega))) (by simp)
            have HO3 := Lib.hid hown'
            clear hown'
            have HE := Lib.hid hE
            clear hE
            clear happ
            go_wp2_with fail
            go_roundw
            case rel => exact ⟨k + 1, by omega, by go_num, Lib.hid (by rw [HN.out, HA.out, if_pos rfl, List.flatMap_append, List.length_append]; simpa [scaleEnc] using HO3.out), HE.out⟩
            case measure => simp [intOf]; omega
        · have hkn : m = g.loads.length := by omega
          have hU := HU.out
          rw [hkn, List.take_length] at hU
          have HU2 := Lib.hid hU
          clear hU
          clear hkn HU
          go_wp2_with fail
          go_roundw
          case rel => exact ⟨k + 1, by omega, by go_num, Lib.hid (by rw [HN.out, HU2.out, if_neg (by simp)]; exact ownsRow_exts HO.out (by repeat' (first | with_reducible exact World.Exts.refl _ | with_reducible refine World.Exts.alloc ?_ _ | with_reducible refine World.Exts.drew ?_ | with_reducible refine World.Exts.drewN ?_ _ | with_reducible refine World.Exts.ext ?_ _ | with_reducible refine World.Exts.setCell ?_ ?_ _ | (simp; done) | exact World.size_ext_le _ _ | (simp; omega)))), (by repeat' (first | with_reducible exact World.Exts.refl _ | with_reducible refine World.Exts.alloc ?_ _ | with_reducible refine World.Exts.drew ?_ | with_reducible refine World.Exts.drewN ?_ _ | with_reducible refine World.Exts.ext ?_ _ | with_reducible refine World.Exts.setCell ?_ ?_ _ | (simp; done) | exact World.size_ext_le _ _ | (simp; omega)))⟩
          case measure => simp [intOf]; omega
    · have hkn : k = ts.length := by omega
      have hO := HO.out
      rw [hkn, HFIN.out] at hO
      have hrw : IsRow scaleEnc 7 _ _ (usedBay g.loads ts) := IsRow.of_owns hO (fun _ _ => rfl)
      have HRW := Lib.hid hrw
      clear hrw
      clear hkn HO hO
      go_wp2_with fail
      go_ret
      refine ⟨_, rfl, ⟨HRW.out.mono (by repeat' (first | with_reducible exact World.Exts.refl _ | with_reducible refine World.Exts.alloc ?_ _ | with_reducible refine World.Exts.drew ?_ | with_reducible refine World.Exts.drewN ?_ _ | with_reducible refine World.Exts.ext ?_ _ | with_reducible refine World.Exts.setCell ?_ ?_ _ | (simp; done) | exact World.size_ext_le _ _ | (simp; omega))), fun x hx => (HTR.out x (List.mem_filter.1 hx).1).mono (by repeat' (first | with_reducible exact World.Exts.refl _ | with_reducible refine World.Exts.alloc ?_ _ | with_reducible refine World.Exts.drew ?_ | with_reducible refine World.Exts.drewN ?_ _ | with_reducible refine World.Exts.ext ?_ _ | with_reducible refine World.Exts.setCell ?_ ?_ _ | (simp; done) | exact World.size_ext_le _ _ | (simp; omega)))⟩, (by repeat' (first | with_reducible exact World.Exts.refl _ | with_reducible refine World.Exts.alloc ?_ _ | with_reducible refine World.Exts.drew ?_ | with_reducible refine World.Exts.drewN ?_ _ | with_reducible refine World.Exts.ext ?_ _ | with_reducible refine World.Exts.setCell ?_ ?_ _ | (simp; done) | exact World.size_ext_le _ _ | (simp; omega)))⟩
end Go.Proofs.YtomcenfikdmmkaaGreatDoor
