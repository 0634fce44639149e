/-
  Several texts in one: see the heads of its parts.
-/

import Derived.Test.YtcickafaomfbmaaGreatDoorZSJesTk
import Derived.Test.YtcickafaomfbmaaGreatDoorZSJesScFG
import Derived.Test.YtcickafaomfbmaaGreatDoorZSJesBt
import Derived.Test.YtcickafaomfbmaaGreatDoorZSJesPl
import Derived.Test.YtcickafaomfbmaaGreatDoorZSJesScDT
import Derived.Maps.RangeWalk
/-
  Walks of the reference of layer 4: a twin of a bay: rows of an own row are written anew.
-/
namespace Go
open Go.RowKit

/-- The cells of an own block, from its start, all writable. -/
structure BlkAt (w : World) (g : Nat) (xs : List Value) : Prop where
  cell : ∀ q u, xs[q]? = some u → w.cell? ⟨g, q, none⟩ = some u
  free : ∀ q, q < xs.length → w.frozen? ⟨g, q, none⟩ = false
theorem BlkAt.lays {w : World} {g : Nat} {xs : List Value} (h : BlkAt w g xs) (h0 : 0 < xs.length) : Lays w g := Lays.of_cell (h.cell 0 xs[0] (by simp [h0]))
theorem BlkAt.exts {w w' : World} {g : Nat} {xs : List Value} (h : BlkAt w g xs) (hE : w.Exts w') : BlkAt w' g xs := by
  obtain ⟨X, rfl⟩ := hE
  refine ⟨fun q u hq => ?_, fun q hq => ?_⟩
  · haveI := h.lays (by have := (List.getElem?_eq_some_iff.1 hq).1; omega)
    rw [World.cell?_ext]; exact h.cell q u hq
  · haveI := h.lays (by omega)
    rw [World.frozen?_ext]; exact h.free q hq
theorem BlkAt.set {w : World} {g : Nat} {xs : List Value} (h : BlkAt w g xs) {p : Nat} (hp : p < xs.length) (u : Value) : BlkAt (w.setCell ⟨g, p, none⟩ u) g (xs.set p u) := by
  refine ⟨fun q v hq => ?_, fun q hq => ?_⟩
  · by_cases hpq : p = q
    · subst hpq
      rw [List.getElem?_set_self hp] at hq
      cases hq
      have h1 := h.cell p xs[p] (by simp [hp])
      exact World.cell?_setCell_same w _ u h1
    · rw [List.getElem?_set_ne hpq] at hq
      rw [World.cell?_setCell_other w _ _ u (fun e => hpq (by cases e; rfl))]
      exact h.cell q v hq
  · simp at hq
    simpa using h.free q hq
theorem BlkAt.of_owns {w : World} {base e size n g c : Nat} {xs : List Value} (h : w.ownsRow base e size (.slice (some ⟨g, 0, none⟩) n c) n xs) : BlkAt w g xs := by
  rcases h.2 with ⟨h0, _⟩ | ⟨g', cap, cur, hv, _, hg, hnc, _, hcs, htk⟩
  · cases h0
  · cases hv
    have hx : ∀ (q : Nat) (u : Value), xs[q]? = some u → cur[q]? = some u := by
      intro q u hq
      rw [← htk] at hq
      have hlt : q < n * size := by
        have := (List.getElem?_eq_some_iff.1 hq).1
        rw [List.length_take] at this; omega
      rw [List.getElem?_take_of_lt hlt] at hq
      simpa using hq
    refine ⟨fun q u hq => ?_, fun q hq => ?_⟩
    · simp [World.cell?, hg, hx q u hq]
    · simp [World.frozen?, hg]

theorem flat_row {α : Type} {enc : α → List Value} {size : Nat} (hk : ∀ y, (enc y).length = size) : ∀ {l : List α} {i : Nat} {x : α}, l[i]? = some x → ∀ {j : Nat} {u : Value}, (enc x)[j]? = some u → (l.flatMap enc)[i * size + j]? = some u
  | y :: l, 0, x, hx, j, u, hu => by
    simp at hx; subst hx
    rw [List.flatMap_cons, Nat.zero_mul, Nat.zero_add, List.getElem?_append_left (List.getElem?_eq_some_iff.1 hu).1]; exact hu
  | y :: l, i + 1, x, hx, j, u, hu => by
    rw [List.flatMap_cons, List.getElem?_append_right (by rw [hk, Nat.succ_mul]; omega), show (i + 1) * size + j - (enc y).length = i * size + j from by rw [hk, Nat.succ_mul]; omega]
    exact flat_row hk (by simpa using hx) hu
/-- A row that lies in none of the blocks G. -/
structure RowOff {α : Type} (enc : α → List Value) (k : Nat) (w : World) (G : List Nat) (v : Value) (xs : List α) : Prop where
  row : IsRow enc k w v xs
  off : xs = [] ∨ ∀ g ∈ G, v.ownBlock ≠ some g
theorem RowOff.exts {α : Type} {enc : α → List Value} {k : Nat} {G : List Nat} {w w' : World} {v : Value} {xs : List α} (h : RowOff enc k w G v xs) (hE : w.Exts w') : RowOff enc k w' G v xs := ⟨h.row.mono hE, h.off⟩
theorem RowOff.set {α : Type} {enc : α → List Value} {k : Nat} {G : List Nat} {w : World} {v : Value} {xs : List α} (h : RowOff enc k w G v xs) {a : Addr} (hg : a.block ∈ G) (u : Value) : RowOff enc k (w.setCell a u) G v xs := by
  refine ⟨?_, h.off⟩
  obtain ⟨p, b, o, cap, rfl, hm, hp, hc⟩ := h.row.ex
  refine ⟨p, b, o, cap, rfl, hm, fun h0 => ⟨(hp h0).1, by haveI := (hp h0).2; infer_instance⟩, fun i x hx j u' hu => ?_⟩
  have h0 : 0 < xs.length := by have := (List.getElem?_eq_some_iff.1 hx).1; omega
  have hb : a.block ≠ b := fun e => by
    rcases h.off with h1 | h1
    · rw [h1] at h0; simp at h0
    · have h2 := h1 _ hg
      rw [(hp h0).1, e] at h2; exact h2 rfl
  rw [World.cell?_setCell_other w _ _ u (fun e => hb (by rw [e]))]
  exact hc i x hx j u' hu
theorem RowOff.own {α : Type} {enc : α → List Value} {k base e : Nat} {G : List Nat} {w : World} {v : Value} {xs : List α} (h : w.ownsRow base e k v xs.length (xs.flatMap enc)) (hk : ∀ y ∈ xs, (enc y).length = k) (hg : ∀ g ∈ G, g < base) : RowOff enc k w G v xs := by
  refine ⟨IsRow.of_owns h hk, .inr fun g h1 e => ?_⟩
  have := (h.lt g e).1
  have := hg g h1
  omega
/-- A row, from the cells of its block. -/
theorem IsRow.of_blk {α : Type} {enc : α → List Value} {k g c : Nat} {w : World} {xs : List α} (hk : ∀ y, (enc y).length = k) (h : BlkAt w g (xs.flatMap enc)) (hl : Lays w g) (hc : xs.length ≤ c ∧ c ≤ 9223372036854775807) : IsRow enc k w (.slice (some ⟨g, 0, none⟩) xs.length c) xs :=
  ⟨_, g, 0, c, rfl, hc, fun _ => ⟨rfl, hl⟩, fun i x hx j u hu => by rw [Nat.zero_add]; exact h.cell _ _ (flat_row hk hx hu)⟩
end Go
namespace Go.Proofs.YtcickafaomfbmaaGreatDoor
open Go.RowKit Kr
set_option linter.unusedSimpArgs false

def scaleEnc (x : Kr.Scale × Value) : List Value := [.int .i64 x.1.id, .int .i64 x.1.step, .int .i64 x.1.gain.lo, .int .i64 x.1.gain.hi, .int .i64 x.1.off.lo, .int .i64 x.1.off.hi, x.2]
theorem elem_Scale : ElemOf Tryz.prog 50 110 (.agg #[.int .i64 0, .int .i64 0, .int .i64 0, .int .i64 0, .int .i64 0, .int .i64 0, .slice none 0 0]) 7 72 := ⟨Tryz.underlying50, by kernel_rfl, rfl, by decide, by decide⟩

end Go.Proofs.YtcickafaomfbmaaGreatDoor

/-
  Walks of package scale and of its reference: the scales that are used.
-/
namespace Go.Proofs.YtcickafaomfbmaaGreatDoor
open Go.RowKit Kr
set_option linter.unusedSimpArgs false

def usedBay (ls : List Load) (ts : List (Kr.Scale × Value)) : List (Kr.Scale × Value) := ts.filter fun x => usedB ls x.1
theorem usedBay_fst (ls : List Load) (ts : List (Kr.Scale × Value)) : (usedBay ls ts).map Prod.fst = used (ts.map Prod.fst) ls := by
  unfold usedBay used; rw [List.filter_map]; rfl
theorem usedBay_snoc {ls : List Load} {ts : List (Kr.Scale × Value)} {k : Nat} {x : Kr.Scale × Value} (hx : ts[k]? = some x) : usedBay ls (ts.take (k + 1)) = if usedB ls x.1 then usedBay ls (ts.take k) ++ [x] else usedBay ls (ts.take k) := by
  unfold usedBay; rw [take_snoc hx, List.filter_append]
  cases h : usedB ls x.1 <;> simp [h]
theorem usedBay_len (ls : List Load) (ts : List (Kr.Scale × Value)) (k : Nat) : (usedBay ls (ts.take k)).length ≤ ts.length := by
  unfold usedBay
  refine Nat.le_trans (List.length_filter_le _ _) ?_
  rw [List.length_take]; omega
end Go.Proofs.YtcickafaomfbmaaGreatDoor

/-
  Walks of package scale: the scales that are used, by the hall.
-/
namespace Go
open Go.RowKit Go.Maps

/-- A map from ints to bools, asked with 'false' for what it lacks. -/
structure Idle (D : DataW Value) (f : Int → Bool) : Prop where
  isMap : IsMap D
  at_ : ∀ i, D.atKey (.int .i64 i) (.held (.bool false)) = .held (.bool (f i))
theorem Idle.nil : Idle (.map []) (fun _ => false) := ⟨isMap_empty, fun _ => rfl⟩
theorem Idle.put {D : DataW Value} {f : Int → Bool} (h : Idle D f) (i : Int) : Idle (D.put (.int .i64 i) (.held (.bool true))) (fun j => j == i || f j) := by
  refine ⟨h.isMap.put _ _, fun j => ?_⟩
  by_cases hj : j = i
  · subst hj; rw [atKey_put_same h.isMap (keyLit j)]; simp
  · rw [atKey_put_other (by intro e; cases e; exact hj rfl), h.at_]
    have : (j == i) = false := by simpa using hj
    simp [this]
theorem Idle.del {D : DataW Value} {f : Int → Bool} (h : Idle D f) (i : Int) : Idle (D.del (.int .i64 i)) (fun j => !(j == i) && f j) := by
  refine ⟨h.isMap.del _, fun j => ?_⟩
  by_cases hj : j = i
  · subst hj; rw [atKey_del_same]; simp
  · rw [atKey_del_other (by intro e; cases e; exact hj rfl), h.at_]
    have : (j == i) = false := by simpa using hj
    simp [this]
theorem Idle.same {D : DataW Value} {f g : Int → Bool} (h : Idle D f) (e : ∀ i, f i = g i) : Idle D g := ⟨h.isMap, fun i => by rw [h.at_, e]⟩

theorem exts_any {A W w' : World} (hg : W.grownBy w' none) (hE : A.Exts W) : A.Exts w' := .of (hE.below.grown hg hE.below.size (fun k hk => by cases hk))
/-- 'm[k]' of a map whose elements read as themselves. -/
theorem look_self {P : Program} {k t e : TypeId} {w : World} {b n : Nat} {D : DataW Value} (h : w.ownsMap P k readSelf b n D) (K : Keyed P k) (ht : P.underlying t = some (.map k e)) {z : Value} (hz : (zeroValue e).run P w = .ok z w)
    {key : Value} {kl : Lit} (hkey : keyOf P k key = some kl) {v : Value} (hv : D.atKey kl (.held z) = .held v) : (Instr.lookup t (.map (some b)) key false).run P w = .ok v w := by
  obtain ⟨es, clock, hb, F, _, rfl⟩ := h
  rcases Maps.fit_look false K ht hz hb F hkey with ⟨hrun, _, hat⟩ | ⟨e0, y, _, _, hrun, hRv, hat, _⟩
  · rw [hat] at hv; cases hv; exact hrun
  · rw [hat] at hv
    simp [readSelf] at hRv
    rw [← hRv] at hv
    simp at hv
    rw [hrun, ← hv]; rfl
end Go
namespace Go.Proofs.YtcickafaomfbmaaGreatDoor
open Go.RowKit Go.Maps Kr
set_option linter.unusedSimpArgs false

theorem zero_bool (w : World) : (zeroValue 4).run Tryz.prog w = .ok (.bool false) w := by kernel_rfl

/-- Which Ids are still idle: those of the bay that the loads so far do not name. -/
def idleB (ts : List (Kr.Scale × Value)) (ls : List Load) (i : Int) : Bool := (ts.find? (fun x => x.1.id == i)).isSome && !(ls.any fun l => l.scale == i)

set_option maxRecDepth 4000 in
set_option maxHeartbeats 2000000 in
theorem hall_used_any (ts : List (Kr.Scale × Value)) (v : Value) (g : Gear) (lv rv sv : Value) (hb : Nat) (w : World) (hh : HallAt Tryz.prog 3 w hb v ts) (hg : GearAt w (g, lv, rv, sv)) (hn : ts.length ≤ 1000) (hok : ∀ x ∈ ts, right x.1 = true) :
    Calls Tryz.prog 94 #[.pointer (some ⟨hb, 0, none⟩), .agg #[lv, .int .i64 g.added, .int .i64 g.base, .int .i64 g.jitter, rv, sv, .int .i64 g.spread, .bool g.stamp]] w fun e w' => ∃ v', e = .returned v' ∧ BayAt w' v' (usedBay g.loads ts) ∧ w.Exts w' := by
  have hfin : usedBay g.loads (ts.take ts.length) = usedBay g.loads ts := by rw [List.take_length]
  obtain ⟨m, D, h0, h1, hM, hD⟩ := hh.ex
  have hlh := Lays.of_cell h0
  obtain ⟨p, b, o, cap, rfl, hm, hp, hc⟩ := hh.bay.row.ex
  obtain ⟨pl, bl, ol, capl, hlv, hml, hpl, hcl⟩ := hg.l.ex
  dsimp only at hlv hml hpl hcl
  subst hlv
  have htr := hh.bay.tr
  have hwf := hg.wf
  have HC := Lib.hid hc
  clear hc
  have HP := Lib.hid hp
  clear hp
  have HCL := Lib.hid hcl
  clear hcl
  have HPL := Lib.hid hpl
  clear hpl
  have HTR := Lib.hid htr
  clear htr
  have HWF := Lib.hid hwf
  clear hwf
  have HOK := Lib.hid hok
  clear hok
  have HFIN := Lib.hid hfin
  clear hfin
  have HM := Lib.hid hM
  clear hM
  have HD := Lib.hid hD
  clear hD
  clear hh hg
  have hmm := @run_makeMap Tryz.prog
  have hsz := HM.out.size_le
  have hmw := HM.out.lt
  go_enter Tryz.func94, Tryz.ntmps94
  go_wp2_with (at_range; refine wpList_range_own _ rfl _ 190 rfl 3 110 law_int Tryz.underlying190 readSelf m ts.length D rfl (ownsMap_exts HM.out exq) ?_; intro w0 hrg0 hg0 hs0)
  have hX0 : (w.alloc (.cells #[.slice pl g.loads.length capl, .int .i64 g.added, .int .i64 g.base, .int .i64 g.jitter, rv, sv, .int .i64 g.spread, .bool g.stamp] 55)).Exts w0 := exts_any hg0 exq
  have hI0 := ((World.ownsMap_made (w.alloc (.cells #[.slice pl g.loads.length capl, .int .i64 g.added, .int .i64 g.base, .int .i64 g.jitter, rv, sv, .int .i64 g.spread, .bool g.stamp] 55)) Tryz.prog 3 readSelf)).kept hg0 (by simp)
  simp only [World.size_alloc] at hI0 hrg0 hs0 ⊢
  have HX0 := Lib.hid hX0
  clear hX0
  have HI0 := Lib.hid hI0
  clear hI0
  clear hg0
  go_loopw [6] (fun _ wr => ∃ (left : Lit → Bool) (cnt : Nat) (Di : DataW Value), wr.ranges Tryz.prog 3 readSelf m (w.heap.size + 1 + 1) ts.length D left cnt ∧ cnt ≤ Maps.size D ∧ Hid (wr.ownsMap Tryz.prog 3 readSelf (w.heap.size + 1) (Maps.size D - cnt) Di) ∧ Hid (Idle Di fun i => Maps.has D (.int .i64 i) && !left (.int .i64 i)) ∧ (w.alloc (.cells #[.slice pl g.loads.length capl, .int .i64 g.added, .int .i64 g.base, .int .i64 g.jitter, rv, sv, .int .i64 g.spread, .bool g.stamp] 55)).Exts wr) (fun _ wr => wr.rangeLeft m (w.heap.size + 1 + 1))
  case atStart => exact ⟨_, _, .map [], hrg0, Nat.le_refl _, Lib.hid (HI0.out.mono (Nat.zero_le _)), Lib.hid (Idle.nil.same fun i => by simp), HX0.out⟩
  case round =>
    obtain ⟨left, cnt, Di, hrg, hcs, HI, HID, hE⟩ := hrel
    go_wp2_with (at_next; refine wpList_next_ranges _ rfl _ rfl 3 law_int readSelf (Value.int .i64) id (fun key kl hkey => by obtain ⟨x, rfl, _⟩ := Maps.keyOf_int_inv Tryz.underlying3 hkey; exact ⟨x, rfl⟩) (fun v y hv => ⟨v, rfl⟩) m (w.heap.size + 1 + 1) ts.length _ _ _ rfl hrg ?_ ?_)
    · intro hc0 hl0
      have hid0 : Idle Di (idleB ts (g.loads.take 0)) := HID.out.same fun i => by
        rw [hl0, HD.out.has_, byId_find]
        unfold idleB
        simp
      have hI2 : wr.ownsMap Tryz.prog 3 readSelf (w.heap.size + 1) (Maps.size D) Di := HI.out.mono (by omega)
      have HID0 := Lib.hid hid0
      clear hid0
      have HI2 := Lib.hid hI2
      clear hI2
      have HE := Lib.hid hE
      clear hE
      clear HI HID hl0 hrg
      obtain ⟨X0, rfl⟩ := HE.out
      clear HE
      go_wp2_with fail
      go_loopw [27] (fun i wr => ∃ (k : Nat) (Dj : DataW Value), k ≤ g.loads.length ∧ i = .int .i64 k ∧ Hid (wr.ownsMap Tryz.prog 3 readSelf (w.heap.size + 1) (Maps.size D) Dj) ∧ Hid (Idle Dj (idleB ts (g.loads.take k))) ∧ (w.alloc (.cells #[.slice pl g.loads.length capl, .int .i64 g.added, .int .i64 g.base, .int .i64 g.jitter, rv, sv, .int .i64 g.spread, .bool g.stamp] 55)).Exts wr) (fun i _ => g.loads.length - (intOf i).toNat)
      case atStart => exact ⟨0, Di, Nat.zero_le _, rfl, Lib.hid (HI2.out), Lib.hid HID0.out, exq⟩
      case round =>
        clear HID0 HI2
        obtain ⟨k, Dj, hk, rfl, HI, HID, hE⟩ := hrel
        obtain ⟨X, rfl⟩ := hE
        by_cases hlt : k < g.loads.length
        · obtain ⟨rfl, hlay2⟩ := HPL.out (by omega)
          obtain ⟨l, hl⟩ := some_of_lt hlt
          have hcs := HCL.out k l hl
          have c0 := hcs 0 _ rfl
          have c1 := hcs 1 _ rfl
          simp only [Nat.add_zero] at c0 c1
          have hw := HWF.out l (List.mem_of_getElem? hl)
          have hnx : ∀ i, idleB ts (g.loads.take (k + 1)) i = (!(i == l.scale) && idleB ts (g.loads.take k) i) := fun i => by
            unfold idleB
            rw [take_snoc hl, List.any_append]
            by_cases hi : i = l.scale
            · subst hi; simp
            · have e1 : (i == l.scale) = false := by simpa using hi
              have e2 : (l.scale == i) = false := by simpa using Ne.symm hi
              simp [e1, e2]
          have HNX := Lib.hid hnx
          clear hnx
          have HW := Lib.hid hw
          clear hw
          clear hl hcs
          go_wp2_with (at_delete; refine wpList_delete_own _ rfl _ _ 175 3 rfl 4 law_int Tryz.underlying175 readSelf _ _ Dj rfl (ownsMap_exts HI.out exq) _ _ rfl (keyOf_int_mk Tryz.underlying3 HW.out) ?_)
          intro w2 hown2 hturn
          have hE2 : (w.alloc (.cells #[.slice (some ⟨bl, ol, none⟩) g.loads.length capl, .int .i64 g.added, .int .i64 g.base, .int .i64 g.jitter, rv, sv, .int .i64 g.spread, .bool g.stamp] 55)).Exts w2 := exts_turned (b := w.heap.size + 1) exq (by simp) hturn.grown
          have HE2 := Lib.hid hE2
          clear hE2
          have HOWN2 := Lib.hid hown2
          clear hown2
          clear hturn
          go_wp2_with fail
          go_roundw
          case rel => exact ⟨k + 1, _, by omega, by go_num, Lib.hid HOWN2.out, Lib.hid ((HID.out.del l.scale).same fun i => (HNX.out i).symm), HE2.out⟩
          case measure => simp [intOf]; omega
        · have hkn : k = g.loads.length := by omega
          have hid1 := HID.out
          rw [hkn, List.take_length] at hid1
          have HID1 := Lib.hid hid1
          clear hid1
          clear hkn HID
          go_wp2_with fail
          go_loopw [9, 41] (fun out i wr => ∃ k : Nat, k ≤ ts.length ∧ i = .int .i64 k ∧ Hid (wr.ownsRow (World.ext _ X).heap.size 110 7 out (usedBay g.loads (ts.take k)).length ((usedBay g.loads (ts.take k)).flatMap scaleEnc)) ∧ (World.ext _ X).Exts wr) (fun _ i _ => ts.length - (intOf i).toNat)
          case atStart => exact ⟨0, Nat.zero_le _, rfl, Lib.hid (World.ownsRow_nil _ _ _ _), exq⟩
          case round =>
            have hzX := World.size_ext_le _ X
            simp at hzX
            have hI3 := HI.out
            have HI3 := Lib.hid hI3
            clear hI3
            clear HI
            obtain ⟨k, hk, rfl, HO, hE⟩ := hrel
            obtain ⟨X1, rfl⟩ := hE
            by_cases hlt : k < ts.length
            · obtain ⟨rfl, hlay⟩ := HP.out (by omega)
              obtain ⟨⟨s, sv2⟩, hx⟩ := some_of_lt hlt
              have htx := HTR.out _ (List.mem_of_getElem? hx)
              have hrs := right_id (HOK.out _ (List.mem_of_getElem? hx))
              dsimp only at htx hrs
              obtain ⟨q1, cp1, rfl⟩ := htx.len
              have hcs := HC.out k _ hx
              have c0 := hcs 0 _ rfl
              have c1 := hcs 1 _ rfl
              have c2 := hcs 2 _ rfl
              have c3 := hcs 3 _ rfl
              have c4 := hcs 4 _ rfl
              have c5 := hcs 5 _ rfl
              have c6 := hcs 6 _ rfl
              simp only [Nat.add_zero] at c0 c1 c2 c3 c4 c5 c6
              have hnx := usedBay_snoc (ls := g.loads) hx
              dsimp only at hnx
              have hlen := usedBay_len g.loads ts k
              have hib : idleB ts g.loads s.id = !usedB g.loads s := by
                unfold idleB usedB
                have h1 : (ts.find? (fun x => x.1.id == s.id)).isSome = true := by
                  rw [List.find?_isSome]
                  exact ⟨_, List.mem_of_getElem? hx, by simp⟩
                rw [h1, Bool.true_and]
              generalize usedBay g.loads (ts.take k) = U at hnx hlen HO
              have hkey : keyOf Tryz.prog 3 (.int .i64 s.id) = some (.int .i64 s.id) := keyOf_int_mk Tryz.underlying3 (WalkArith.wf_i64 (by omega))
              have hlk := look_self (ownsMap_exts (W := ((World.ext (World.ext _ X) X1).alloc (.cells #[.int .i64 s.id, .int .i64 s.step, .int .i64 s.gain.lo, .int .i64 s.gain.hi, .int .i64 s.off.lo, .int .i64 s.off.hi, .slice q1 s.trials.length cp1] 110))) HI3.out exq) law_int Tryz.underlying175 (zero_bool _) hkey (HID1.out.at_ s.id)
              rw [hib] at hlk
              clear hx hcs htx hib hkey
              cases hu : usedB g.loads s
              · rw [hu] at hnx hlk
                have HN := Lib.hid hnx
                clear hnx
                simp only [Bool.not_false, Bool.not_true] at hlk
                go_wp2_with fail
                go_roundw
                case rel => exact ⟨k + 1, by omega, by go_num, Lib.hid (by rw [HN.out, if_neg (by simp)]; exact ownsRow_exts HO.out exq), exq⟩
                case measure => simp [intOf]; omega
              · rw [hu] at hnx hlk
                have HN := Lib.hid hnx
                clear hnx
                simp only [Bool.not_false, Bool.not_true] at hlk
                go_wp2_with (at_builtin; refine wpList_append1W (.tmp 50) (.tmp 52) elem_Scale rfl rfl rfl (ownsRow_exts HO.out exq) [.int .i64 s.id, .int .i64 s.step, .int .i64 s.gain.lo, .int .i64 s.gain.hi, .int .i64 s.off.lo, .int .i64 s.off.hi, .slice q1 s.trials.length cp1] _ (by simp) rfl rfl ?h1 ?h2 ?h4 ?h3 ?_)
                case h1 => exact ⟨rfl, rfl, rfl, rfl, rfl, rfl, rfl⟩
                case h2 => omega
                case h3 =>
                  have h1 := World.size_ext_le _ X1
                  simp at h1 ⊢
                  omega
                intro v' w' hown' happ
                have hE := happ.exts (World.ext _ X) exq (Nat.le_refl _)
                have HO3 := Lib.hid hown'
                clear hown'
                have HE := Lib.hid hE
                clear hE
                clear happ
                go_wp2_with fail
                go_roundw
                case rel => exact ⟨k + 1, by omega, by go_num, Lib.hid (by rw [HN.out, if_pos trivial, List.flatMap_append, List.length_append]; simpa [scaleEnc] using HO3.out), HE.out⟩
                case measure => simp [intOf]; omega
            · have hkn : k = ts.length := by omega
              have hO := HO.out
              rw [hkn, HFIN.out] at hO
              have hrw : IsRow scaleEnc 7 _ _ (usedBay g.loads ts) := IsRow.of_owns hO (fun _ _ => rfl)
              have HRW := Lib.hid hrw
              clear hrw
              clear hkn HO hO
              go_wp2_with fail
              go_ret
              refine ⟨_, rfl, ⟨HRW.out.mono exq, fun x hx => (HTR.out x (List.mem_filter.1 hx).1).mono exq⟩, exq⟩
    · intro x c kl y yp w1 cnt1 hkey hlk hR hat hrg1 hlt hg1 hs1 hen
      obtain ⟨x', ex, rfl, hwx⟩ := Maps.keyOf_int_inv Tryz.underlying3 hkey
      cases ex
      have hhas := Maps.has_true_of_atKey hat
      have hE1 := exts_turned (b := w.heap.size + 1 + 1) hE (by simp) hg1
      have hI1 := HI.out.kept hg1 (by simp)
      have HE1 := Lib.hid hE1
      clear hE1
      have HI1 := Lib.hid hI1
      clear hI1
      have HAT := Lib.hid hat
      clear hat
      have HHAS := Lib.hid hhas
      clear hhas
      have HLK := Lib.hid hlk
      clear hlk
      clear hE HI
      go_wp2_with (at_mapUpdate; refine wpList_mapUpdate_own _ rfl _ _ _ 175 rfl 3 4 law_int Tryz.underlying175 readSelf _ _ Di rfl HI1.out (by unfold maxLen; omega) _ _ _ rfl rfl hkey _ [] rfl ?_)
      intro w2 hown2 hg2
      have hE2 := exts_turned (b := w.heap.size + 1) HE1.out (by simp) hg2
      have hrg2 := hrg1.kept hg2 (fun e => by have := Option.some.inj e; omega) (fun e => by have := Option.some.inj e; omega)
      have HE2 := Lib.hid hE2
      clear hE2
      have HOWN2 := Lib.hid hown2
      clear hown2
      clear hg1 hg2 hrg1
      go_wp2_with fail
      go_roundw
      case rel =>
        refine ⟨_, cnt1, _, hrg2, by omega, Lib.hid (HOWN2.out.mono (by omega)), Lib.hid ((HID.out.put x).same fun i => ?_), HE2.out⟩
        by_cases hi : i = x
        · subst hi; rw [HHAS.out]; simp [Lit.sameKey]
        · have e1 : (i == x) = false := by simpa using hi
          have e2 : (Lit.int .i64 i).sameKey (.int .i64 x) = false := sameKey_ne (fun e => hi (by cases e; rfl))
          rw [e1, e2]; simp
      case measure => rw [hrg2.left_eq, hrg.left_eq]; exact hlt
end Go.Proofs.YtcickafaomfbmaaGreatDoor
