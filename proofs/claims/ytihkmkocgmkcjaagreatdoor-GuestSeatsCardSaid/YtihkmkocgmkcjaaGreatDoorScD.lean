/-
  Walks of package scale: open.
-/
import Derived.Test.YtihkmkocgmkcjaaGreatDoorBs
import Derived.Test.YtihkmkocgmkcjaaGreatDoorSa
import Derived.Test.YtihkmkocgmkcjaaGreatDoorRx
namespace Go.Proofs.YtihkmkocgmkcjaaGreatDoor
open Go.RowKit Go.Maps Kr

theorem law_int : Keyed Tryz.prog 3 := int_keyed Tryz.underlying3

theorem byId_take {ts : List (Kr.Scale × Value)} {k : Nat} {x : Kr.Scale × Value} (hx : ts[k]? = some x) : byId (ts.take (k + 1)) = byId (ts.take k) ++ [(x.1.id, scaleVal x)] := by
  rw [take_snoc hx]; simp [byId]
theorem bayFrom_le {a : Int} {l : List Scale} (h : bayFrom a l = true) : a ≤ lastId a l ∧ ∀ s ∈ l, s.id ≤ lastId a l := by
  induction l generalizing a with
  | nil => simp [lastId]
  | cons x l ih =>
    simp [bayFrom] at h
    have := ih h.2
    refine ⟨?_, fun s hs => ?_⟩
    · show a ≤ lastId x.id l; omega
    · show s.id ≤ lastId x.id l
      rcases List.mem_cons.1 hs with rfl | hs
      · exact this.1
      · exact this.2 s hs
theorem byId_new {ts : List (Kr.Scale × Value)} {k : Nat} {i : Int} (hb : bayFrom (-1) ((ts.take k).map Prod.fst) = true) (h : lastId (-1) ((ts.take k).map Prod.fst) < i) : ∀ p ∈ byId (ts.take k), p.1 ≠ i := by
  intro p hp
  obtain ⟨y, hy, rfl⟩ := List.mem_map.1 hp
  have := (bayFrom_le hb).2 y.1 (List.mem_map.2 ⟨y, hy, rfl⟩)
  simp only
  omega

def openErr (ts : List (Kr.Scale × Value)) : Int := if bayOk (ts.map Prod.fst) then 0 else 40
theorem openErr_bad {ts : List (Kr.Scale × Value)} (h : bayOk (ts.map Prod.fst) = false) : openErr ts = 40 := by unfold openErr; rw [h]; rfl
theorem openErr_ok {ts : List (Kr.Scale × Value)} (h : bayOk (ts.map Prod.fst) = true) : openErr ts = 0 := by unfold openErr; rw [h]; rfl

set_option maxRecDepth 4000 in
set_option maxHeartbeats 2000000 in
theorem scale_open_any (ts : List (Kr.Scale × Value)) (v : Value) (w : World) (hrow : BayAt w v ts) :
    Calls Tryz.prog 97 #[.agg #[v]] w fun e w' => ∃ p, e = .returned (.tuple #[.pointer p, .int .i64 (openErr ts)]) ∧ (bayOk (ts.map Prod.fst) = true → ∃ b, p = some ⟨b, 0, none⟩ ∧ HallAt Tryz.prog 3 w' b v ts) ∧ w.Exts w' := by
  have hbay := hrow
  obtain ⟨p, b, o, cap, rfl, hm, hp, hc⟩ := hrow.row.ex
  have ht := hrow.tr
  have HC := Lib.hid hc
  clear hc
  have HP := Lib.hid hp
  clear hp
  have HT := Lib.hid ht
  clear ht
  have HBAY := Lib.hid hbay
  clear hbay
  clear hrow
  have hmm := @run_makeMap Tryz.prog
  go_enter Tryz.func97, Tryz.ntmps97
  go_wp2_with fail
  go_loopw [5, 15] (fun l i wr => ∃ (k : Nat) (D : DataW Value), k ≤ ts.length ∧ l = .int .i64 (lastId (-1) ((ts.take k).map Prod.fst)) ∧ i = .int .i64 k ∧ Hid (bayFrom (-1) ((ts.take k).map Prod.fst) = true) ∧ Hid (HoldsPairs D (byId (ts.take k))) ∧
      Hid (wr.ownsMap Tryz.prog 3 readSelf (w.heap.size + 1) k D) ∧ (w.alloc (.cells #[.slice p ts.length cap] 34)).Exts wr ∧ Lays wr (w.heap.size + 1 + 1) ∧
      wr.cell? ⟨w.heap.size + 1 + 1, 0, none⟩ = some (.slice p ts.length cap) ∧ wr.cell? ⟨w.heap.size + 1 + 1, 1, none⟩ = some (.map (some (w.heap.size + 1)))) (fun _ i _ => ts.length - (intOf i).toNat)
  case atStart =>
    have hmade := World.ownsMap_made (w.alloc (.cells #[.slice p ts.length cap] 34)) Tryz.prog 3 readSelf
    simp only [World.size_alloc] at hmade
    exact ⟨0, .map [], Nat.zero_le _, rfl, rfl, rfl, Lib.hid HoldsPairs.nil, Lib.hid (hmade.alloc _), exq, ⟨by simp⟩, by simp [go_sem], by simp [go_sem]⟩
  case round =>
    obtain ⟨k, D, hk, rfl, rfl, HA, HD, HM, hE, hlh, g0, g1⟩ := hrel
    obtain ⟨X0, rfl⟩ := hE
    by_cases hlt : k < ts.length
    · obtain ⟨rfl, hl⟩ := HP.out (by omega)
      obtain ⟨⟨s, sv⟩, hx⟩ := some_of_lt hlt
      have htr := HT.out _ (List.mem_of_getElem? hx)
      dsimp only at htr
      obtain ⟨q1, cp1, rfl⟩ := htr.len
      have hcs := HC.out k _ hx
      have c0 := hcs 0 _ rfl
      have c1 := hcs 1 _ rfl
      have c2 := hcs 2 _ rfl
      have c3 := hcs 3 _ rfl
      have c4 := hcs 4 _ rfl
      have c5 := hcs 5 _ rfl
      have c6 := hcs 6 _ rfl
      simp only [Nat.add_zero] at c0 c1 c2 c3 c4 c5 c6
      have HTR := Lib.hid htr
      clear htr
      clear hcs HP
      generalize hla : lastId (-1) ((ts.take k).map Prod.fst) = la
      rcases Int.lt_or_le la s.id with hid | hid
      · cases hr : right s
        · have HI := Lib.hid hx
          clear hx
          have HR := Lib.hid hr
          clear hr
          go_wp2_with (go_at_call 136; refine (scale_right_any s _ _ (HTR.out.mono exq)).mono ?_; rintro e w' ⟨rfl, X2, rfl⟩; rw [HR.out])
          go_ret2
          have hf := bay_fails HI.out (.inr HR.out)
          exact ⟨none, by rw [openErr_bad hf]; rfl, fun h => (by rw [hf] at h; cases h), exq⟩
        · have hri := right_id hr
          have hnew := byId_new HA.out (show lastId (-1) ((ts.take k).map Prod.fst) < s.id by rw [hla]; exact hid)
          have hkey : keyOf Tryz.prog 3 (.int .i64 s.id) = some (.int .i64 s.id) := keyOf_int_mk Tryz.underlying3 (WalkArith.wf_i64 (by omega))
          have HI := Lib.hid hx
          clear hx
          have HR := Lib.hid hr
          clear hr
          have HLA := Lib.hid hla
          clear hla
          have HNEW := Lib.hid hnew
          clear hnew
          go_wp2_with (go_at_call 136; refine (scale_right_any s _ _ (HTR.out.mono exq)).mono ?_; rintro e w' ⟨rfl, X2, rfl⟩; rw [HR.out])
          refine wp_region_ext_tail 7 (by kernel_rfl) (by kernel_rfl) ?_
          simp only [List.take_succ_cons, List.take_zero, List.drop_succ_cons, List.drop_zero]
          repeat (go_big_quiet_step (fail))
          refine wpQuiet_nil ?_
          rintro _ ⟨X, rfl⟩
          go_wp2_with (at_mapUpdate; refine wpList_mapUpdate_own _ rfl _ _ _ 223 rfl 3 84 law_int Tryz.underlying223 readSelf _ k D rfl (ownsMap_exts HM.out exq) (by unfold maxLen; omega) _ _ _ rfl rfl hkey _ [] rfl ?_)
          intro w1 hown1 hgrow1
          have hl1 := hlh.lt
          have hE1 : (w.alloc (.cells #[.slice (some ⟨b, o, none⟩) ts.length cap] 34)).Exts w1 := exts_turned exq (by simp) hgrow1
          have g0' : w1.cell? ⟨w.heap.size + 1 + 1, 0, none⟩ = some (.slice (some ⟨b, o, none⟩) ts.length cap) := hgrow1.cell (by simp [go_sem, g0]) (by simp)
          have g1' : w1.cell? ⟨w.heap.size + 1 + 1, 1, none⟩ = some (.map (some (w.heap.size + 1))) := hgrow1.cell (by simp [go_sem, g1]) (by simp)
          have i0 : w1.cell? ⟨((w.alloc (.cells #[.slice (some ⟨b, o, none⟩) ts.length cap] 34)).ext X0).heap.size, 0, none⟩ = some (.int .i64 s.id) := hgrow1.cell (by simp [go_sem]) (by simp; omega)
          have hlh1 : Lays w1 (w.heap.size + 1 + 1) := Lays.of_cell g0'
          have HE1 := Lib.hid hE1
          clear hE1
          have HOWN1 := Lib.hid hown1
          clear hown1
          have HL1 := Lib.hid hlh1
          clear hlh1
          clear hgrow1
          go_wp2_with fail
          go_roundw
          case rel =>
            have hb1 : bayFrom (-1) ((ts.take (k + 1)).map Prod.fst) = true := by
              rw [take_snoc HI.out, List.map_append, List.map_singleton, bayFrom_snoc, HA.out, HR.out, HLA.out]; simpa using hid
            exact ⟨k + 1, _, by omega, by rw [take_snoc HI.out, List.map_append, List.map_singleton, lastId_snoc], by go_num, hb1, Lib.hid (by rw [byId_take HI.out]; exact HD.out.put _ _ HNEW.out), Lib.hid HOWN1.out, HE1.out, HL1.out, g0', g1'⟩
          case measure => simp [intOf]; omega
      · have HI := Lib.hid hx
        clear hx
        go_wp2_with fail
        go_ret2
        have hf := bay_fails HI.out (.inl (by rw [hla]; simp; omega))
        exact ⟨none, by rw [openErr_bad hf]; rfl, fun h => (by rw [hf] at h; cases h), exq⟩
    · have hkn : k = ts.length := by omega
      have hA := HA.out
      have hD := HD.out
      rw [hkn, List.take_length] at hA hD
      have HA2 := Lib.hid hA
      clear hA
      have HD2 := Lib.hid hD
      clear hD
      have hm2 : ((World.ext _ X0)).ownsMap Tryz.prog 3 readSelf (w.heap.size + 1) ts.length D := hkn ▸ HM.out
      have HM2 := Lib.hid hm2
      clear hm2
      clear hkn
      by_cases h4 : ts.length ≤ 4
      · have hok : bayOk (ts.map Prod.fst) = true := by unfold bayOk; rw [HA2.out]; simpa using h4
        go_wp2_with fail
        go_ret2
        exact ⟨_, by rw [openErr_ok hok]; rfl, fun _ => ⟨_, rfl, ⟨⟨_, D, g0, g1, HM2.out, HD2.out⟩, HBAY.out.mono exq⟩⟩, exq⟩
      · have hbad : bayOk (ts.map Prod.fst) = false := by unfold bayOk; rw [HA2.out]; simp; omega
        go_wp2_with fail
        go_ret2
        exact ⟨none, by rw [openErr_bad hbad]; rfl, fun h => (by rw [hbad] at h; cases h), exq⟩
end Go.Proofs.YtihkmkocgmkcjaaGreatDoor
