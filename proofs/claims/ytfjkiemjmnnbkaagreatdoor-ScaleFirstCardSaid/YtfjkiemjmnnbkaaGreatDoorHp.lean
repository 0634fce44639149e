/-
  Walks of what the outright laws of layer 4 use: in, among, right, choose, reads.
-/
import Derived.Test.YtfjkiemjmnnbkaaGreatDoorSa
import Derived.Test.YtfjkiemjmnnbkaaGreatDoorRx
import Derived.Test.YtfjkiemjmnnbkaaGreatDoorPl
namespace Go.Proofs.YtfjkiemjmnnbkaaGreatDoor
open Go.RowKit Kr
set_option linter.unusedSimpArgs false

theorem wf_u16 {a : Int} (h : (Lit.int .u16 a).wf = true) : 0 ≤ a ∧ a ≤ 65535 := by
  simp only [Lit.wf, Bool.and_eq_true, decide_eq_true_eq] at h
  exact ⟨h.1, h.2⟩
theorem wf_u8 {a : Int} (h : (Lit.int .u8 a).wf = true) : 0 ≤ a ∧ a ≤ 255 := by
  simp only [Lit.wf, Bool.and_eq_true, decide_eq_true_eq] at h
  exact ⟨h.1, h.2⟩
theorem wf_u32 {a : Int} (h : (Lit.int .u32 a).wf = true) : 0 ≤ a ∧ a ≤ 4294967295 := by
  simp only [Lit.wf, Bool.and_eq_true, decide_eq_true_eq] at h
  exact ⟨h.1, h.2⟩
theorem wf_i32 {a : Int} (h : (Lit.int .i32 a).wf = true) : -2147483648 ≤ a ∧ a ≤ 2147483647 := by
  simp only [Lit.wf, Bool.and_eq_true, decide_eq_true_eq] at h
  exact ⟨h.1, h.2⟩

/-- A number is in some spans. -/
def inL (l : List Span) (n : Int) : Bool := l.any fun s => decide (s.lo ≤ n) && decide (n ≤ s.hi)
theorem inL_iff {l : List Span} {n : Int} : inL l n = true ↔ has l n := by
  unfold inL
  rw [List.any_eq_true]
  constructor
  · rintro ⟨s, hs, h⟩; simp at h; exact ⟨s, hs, h.1, h.2⟩
  · rintro ⟨s, hs, h1, h2⟩; exact ⟨s, hs, by simp; exact ⟨h1, h2⟩⟩
theorem inL_hit {l : List Span} {n : Int} {k : Nat} {x : Span} (hx : l[k]? = some x) (h1 : x.lo ≤ n) (h2 : n ≤ x.hi) : inL l n = true :=
  inL_iff.2 ⟨x, List.mem_of_getElem? hx, h1, h2⟩
theorem inL_snoc {l : List Span} {n : Int} {k : Nat} {x : Span} (hx : l[k]? = some x) : inL (l.take (k + 1)) n = (inL (l.take k) n || (decide (x.lo ≤ n) && decide (n ≤ x.hi))) := by
  unfold inL; rw [take_snoc hx]; simp

set_option maxHeartbeats 1000000 in
theorem l04_in_any (l : List Span) (v : Value) (n : Int) (w : World) (hrow : IsRow (fun t : Kr.Span => [.int .i64 t.lo, .int .i64 t.hi]) 2 w v l) :
    Calls Tryz.prog 33 #[v, .int .i64 n] w fun e w' => e = .returned (.bool (inL l n)) ∧ w.Exts w' := by
  obtain ⟨p, b, o, cap, rfl, hm, hp, hc⟩ := hrow.ex
  have HP := Lib.hid hp
  clear hp
  have HC := Lib.hid hc
  clear hc
  clear hrow
  go_enter Tryz.func33, Tryz.ntmps33
  go_wp2_with fail
  go_loopw [9] (fun i wr => ∃ k : Nat, k ≤ l.length ∧ i = .int .i64 k ∧ Hid (inL (l.take k) n = false) ∧ w.Exts wr) (fun i _ => l.length - (intOf i).toNat)
  case atStart => exact ⟨0, Nat.zero_le _, rfl, Lib.hid rfl, exq⟩
  case round =>
    obtain ⟨k, hk, rfl, HU, hE⟩ := hrel
    obtain ⟨X, rfl⟩ := hE
    by_cases hlt : k < l.length
    · obtain ⟨rfl, hl⟩ := HP.out (by omega)
      obtain ⟨x, hx⟩ := some_of_lt hlt
      have hcs := HC.out k x hx
      have c0 := hcs 0 _ rfl
      have c1 := hcs 1 _ rfl
      simp only [Nat.add_zero] at c0 c1
      have hup := inL_snoc (n := n) hx
      rw [HU.out] at hup
      have hit := fun h1 h2 => inL_hit (n := n) hx h1 h2
      have HIT := Lib.hid hit
      clear hit
      clear hx hcs
      rcases Int.lt_or_le n x.lo with h1 | h1
      · have hup2 : inL (l.take (k + 1)) n = false := by rw [hup]; simp; omega
        have HUP := Lib.hid hup2
        clear hup2
        clear hup
        go_wp2_with fail
        go_roundw
        case rel => exact ⟨k + 1, by omega, by go_num, Lib.hid HUP.out, exq⟩
        case measure => simp [intOf]; omega
      · rcases Int.lt_or_le x.hi n with h2 | h2
        · have hup2 : inL (l.take (k + 1)) n = false := by rw [hup]; simp; omega
          have HUP := Lib.hid hup2
          clear hup2
          clear hup
          go_wp2_with fail
          go_roundw
          case rel => exact ⟨k + 1, by omega, by go_num, Lib.hid HUP.out, exq⟩
          case measure => simp [intOf]; omega
        · have hfin := HIT.out h1 h2
          have HF := Lib.hid hfin
          clear hfin
          clear hup
          go_wp2_with fail
          go_ret
          exact ⟨by rw [HF.out]; rfl, exq⟩
    · have hkn : k = l.length := by omega
      have hU := HU.out
      rw [hkn, List.take_length] at hU
      have HU2 := Lib.hid hU
      clear hU
      clear hkn HU
      go_wp2_with fail
      go_ret
      exact ⟨by rw [HU2.out]; rfl, exq⟩

/-- What is known agrees with what is so. -/
def agreesB (k : Int) (is : Bool) : Bool := decide (k ≤ 2) && ((!decide (k = 2) || is) && (!decide (k = 0) || !is))
set_option maxHeartbeats 1000000 in
theorem l04_right_any (k : Int) (is : Bool) (w : World) (h0 : 0 ≤ k) : Calls Tryz.prog 34 #[.int .u8 k, .bool is] w fun e w' => e = .returned (.bool (agreesB k is)) ∧ w.Exts w' := by
  rcases Int.lt_or_le 2 k with h2 | h2
  · have e0 : (k == 2) = false := by simp; omega
    have e1 : (k == 0) = false := by simp; omega
    go_enter Tryz.func34, Tryz.ntmps34
    go_wp2_with fail
    go_ret
    exact ⟨congrArg Ending.returned (congrArg Value.bool (by simp [agreesB]; omega)), exq⟩
  · obtain rfl | rfl | rfl : k = 0 ∨ k = 1 ∨ k = 2 := by omega
    all_goals cases is
    all_goals
      go_enter Tryz.func34, Tryz.ntmps34
      go_wp2_with fail
      go_ret
      exact ⟨rfl, exq⟩

/-- The number of a list with an index, which goes round. -/
def chooseL (by_ : List Int) (i : Nat) : Int := if by_.length = 0 then 0 else by_.getD (i % by_.length) 0
theorem chooseL_bd {l : List Int} (hb : ∀ x ∈ l, 0 ≤ x ∧ x ≤ 4294967295) (i : Nat) : 0 ≤ chooseL l i ∧ chooseL l i ≤ 4294967295 := by
  unfold chooseL
  split
  · omega
  · rw [List.getD_eq_getElem?_getD]
    cases h : l[i % l.length]? with
    | none => simp
    | some x => simpa using hb x (List.mem_of_getElem? h)
set_option maxHeartbeats 1000000 in
theorem l04_choose_any (l : List Int) (v : Value) (i : Nat) (w : World) (hrow : IsRow (fun x : Int => [.int .u32 x]) 1 w v l) (hb : ∀ x ∈ l, 0 ≤ x ∧ x ≤ 4294967295) (hi : i ≤ 1000000) :
    Calls Tryz.prog 25 #[v, .int .i64 i] w fun e w' => e = .returned (.int .i64 (chooseL l i)) ∧ w.Exts w' := by
  obtain ⟨p, b, o, cap, rfl, hm, hp, hc⟩ := hrow.ex
  by_cases h0 : l.length = 0
  · have hf : chooseL l i = 0 := by unfold chooseL; rw [if_pos h0]
    have h0' : ((l.length : Int) == 0) = true := by simp [h0]
    have H0 := Lib.hid h0
    clear h0
    clear hp hc hrow hb
    go_enter Tryz.func25, Tryz.ntmps25
    go_wp2_with fail
    go_ret
    exact ⟨by rw [hf]; rfl, exq⟩
  · have hlt : i % l.length < l.length := Nat.mod_lt _ (by omega)
    obtain ⟨rfl, hl⟩ := hp (by omega)
    obtain ⟨x, hx⟩ := some_of_lt hlt
    have hcs := hc _ x hx
    have c0 := hcs 0 _ rfl
    simp only [Nat.mul_one, Nat.add_zero] at c0
    have hf : chooseL l i = x := by unfold chooseL; rw [if_neg h0, List.getD_eq_getElem?_getD, hx]; rfl
    have hxb := hb x (List.mem_of_getElem? hx)
    have hmod : (i : Int) % (l.length : Int) = ((i % l.length : Nat) : Int) := by simp
    have h0' : ((l.length : Int) == 0) = false := by simpa using h0
    have hpos : (0 : Int) < (l.length : Int) := by omega
    have htm : (i : Int).tmod (l.length : Int) = ((i % l.length : Nat) : Int) := by rw [Int.tmod_eq_emod_of_nonneg (by omega)]; exact hmod
    generalize i % l.length = m at *
    have HF := Lib.hid hf
    clear hf
    have HX := Lib.hid hx
    clear hx
    clear hcs hc hp hrow hb h0
    go_enter Tryz.func25, Tryz.ntmps25
    go_wp2_with fail
    go_ret
    exact ⟨by rw [HF.out]; rfl, exq⟩

theorem quo_pos {x d : Int} (h : 0 ≤ x) : x.tdiv d = x / d := Int.tdiv_eq_ediv_of_nonneg h
theorem quo_neg {x d : Int} (h : x < 0) : x.tdiv d = -((-x) / d) := by
  have : x = -(-x) := by omega
  rw [this, Int.neg_tdiv, Int.tdiv_eq_ediv_of_nonneg (by omega)]
  simp
theorem reads_eq {x step : Int} (hs : 1 ≤ step) : (if x < 1000 * (x.tdiv (1000 * step) * step) then x.tdiv (1000 * step) * step - step else x.tdiv (1000 * step) * step) = x / 1000 / step * step := by
  have hd : 0 < 1000 * step := by omega
  have e0 : x / 1000 / step = x / (1000 * step) := Int.ediv_ediv_of_nonneg (by omega)
  rw [e0]
  have a1 := Int.ediv_mul_le x (show 1000 * step ≠ 0 by omega)
  have a2 := Int.lt_ediv_add_one_mul_self x hd
  rw [Int.add_mul, Int.one_mul] at a2
  have e1 : ∀ q : Int, q * (1000 * step) = 1000 * (q * step) := fun q => by rw [← Int.mul_assoc, Int.mul_comm q 1000, Int.mul_assoc]
  rw [e1] at a1 a2
  by_cases hx : 0 ≤ x
  · rw [quo_pos hx, if_neg (by omega)]
  · rw [quo_neg (by omega)]
    have b1 := Int.ediv_mul_le (-x) (show 1000 * step ≠ 0 by omega)
    have b2 := Int.lt_ediv_add_one_mul_self (-x) hd
    rw [Int.add_mul, Int.one_mul] at b2
    rw [e1] at b1 b2
    rw [Int.neg_mul]
    by_cases hc : 1000 * ((-x) / (1000 * step) * step) = -x
    · rw [if_neg (by omega)]
      have : x / (1000 * step) = -((-x) / (1000 * step)) := by
        rw [← e1] at hc
        have h3 : x = -((-x) / (1000 * step)) * (1000 * step) := by rw [Int.neg_mul, hc]; omega
        conv => lhs; rw [h3]
        exact Int.mul_ediv_cancel _ (by omega)
      rw [this, Int.neg_mul]
    · rw [if_pos (by omega)]
      have : x / (1000 * step) = -((-x) / (1000 * step)) - 1 := by
        rw [Int.ediv_eq_iff_of_pos hd, Int.sub_mul, Int.neg_mul, e1]
        omega
      rw [this, Int.sub_mul, Int.neg_mul, Int.one_mul]
theorem tdiv_bd {x step : Int} (hs : 1 ≤ step) (hx : -100000 ≤ x ∧ x ≤ 2000000000) : -1000000 ≤ x.tdiv (1000 * step) * step ∧ x.tdiv (1000 * step) * step ≤ 2000000 := by
  have hd : 0 < 1000 * step := by omega
  have e1 : ∀ q : Int, q * (1000 * step) = 1000 * (q * step) := fun q => by rw [← Int.mul_assoc, Int.mul_comm q 1000, Int.mul_assoc]
  by_cases h : 0 ≤ x
  · rw [quo_pos h]
    have a1 := Int.ediv_mul_le x (show 1000 * step ≠ 0 by omega)
    have a3 := Int.mul_nonneg (Int.ediv_nonneg h (show 0 ≤ 1000 * step by omega)) (show 0 ≤ step by omega)
    rw [e1] at a1
    omega
  · rw [quo_neg (by omega), Int.neg_mul]
    have a1 := Int.ediv_mul_le (-x) (show 1000 * step ≠ 0 by omega)
    have a3 := Int.mul_nonneg (Int.ediv_nonneg (show 0 ≤ -x by omega) (show 0 ≤ 1000 * step by omega)) (show 0 ≤ step by omega)
    rw [e1] at a1
    omega

set_option maxHeartbeats 1000000 in
theorem l04_reads_any (s : Scale) (tv : Value) (g o weight : Int) (w : World) (hs : 1 ≤ s.step ∧ s.step ≤ 500) (hg : -10 ≤ g ∧ g ≤ 10) (ho : -100 ≤ o ∧ o ≤ 100) (hw : 0 ≤ weight ∧ weight ≤ 1000000) :
    Calls Tryz.prog 26 #[.agg #[.int .i64 s.id, .int .i64 s.step, .int .i64 s.gain.lo, .int .i64 s.gain.hi, .int .i64 s.off.lo, .int .i64 s.off.hi, tv], .agg #[.int .i64 g, .int .i64 o], .int .i64 weight] w fun e w' => e = .returned (.int .i64 (readAt s.step weight g o)) ∧ w.Exts w' := by
  have hm1 : 0 ≤ weight * (1000 + g) := Int.mul_nonneg (by omega) (by omega)
  have hm2 : weight * (1000 + g) ≤ 1000000 * 1010 := Int.mul_le_mul (by omega) (by omega) (by omega) (by omega)
  obtain ⟨hq1, hq2⟩ := tdiv_bd (x := weight * (1000 + g) + 1000 * o) hs.1 (by omega)
  have hfin := reads_eq (x := weight * (1000 + g) + 1000 * o) hs.1
  rcases Int.lt_or_le (weight * (1000 + g) + 1000 * o) (1000 * ((weight * (1000 + g) + 1000 * o).tdiv (1000 * s.step) * s.step)) with hc | hc
  · rw [if_pos hc] at hfin
    have HF := Lib.hid hfin
    clear hfin
    go_enter Tryz.func26, Tryz.ntmps26
    go_wp2_with fail
    refine wp_region_ext (by kernel_rfl) (by kernel_rfl) ?_
    repeat (go_big_quiet_step (fail))
    refine wpQuiet_nil ?_
    rintro _ ⟨X, rfl⟩
    go_wp2_with fail
    go_ret
    exact ⟨by unfold readAt; rw [← HF.out]; rfl, exq⟩
  · rw [if_neg (by omega)] at hfin
    have HF := Lib.hid hfin
    clear hfin
    go_enter Tryz.func26, Tryz.ntmps26
    go_wp2_with fail
    refine wp_region_ext (by kernel_rfl) (by kernel_rfl) ?_
    repeat (go_big_quiet_step (fail))
    refine wpQuiet_nil ?_
    rintro _ ⟨X, rfl⟩
    go_wp2_with fail
    go_ret
    exact ⟨by unfold readAt; rw [← HF.out]; rfl, exq⟩

def within1 (all : List Span) (x : Span) : Bool := all.any fun t => decide (t.lo ≤ x.lo) && decide (x.hi ≤ t.hi)
def amongB (few all : List Span) : Bool := few.all (within1 all)
theorem within1_snoc {l : List Span} {x y : Span} {k : Nat} (hy : l[k]? = some y) : within1 (l.take (k + 1)) x = (within1 (l.take k) x || (decide (y.lo ≤ x.lo) && decide (x.hi ≤ y.hi))) := by
  unfold within1; rw [take_snoc hy]; simp
theorem amongB_snoc {l all : List Span} {x : Span} {k : Nat} (hx : l[k]? = some x) : amongB (l.take (k + 1)) all = (amongB (l.take k) all && within1 all x) := by
  unfold amongB; rw [take_snoc hx]; simp
theorem amongB_miss {l all : List Span} {x : Span} {k : Nat} (hx : l[k]? = some x) (h : within1 all x = false) : amongB l all = false := by
  unfold amongB; rw [List.all_eq_false]; exact ⟨x, List.mem_of_getElem? hx, by simp [h]⟩
theorem amongB_true {few all : List Span} (h : ∀ s ∈ few, ∃ t ∈ all, t.lo ≤ s.lo ∧ s.hi ≤ t.hi) : amongB few all = true := by
  unfold amongB within1
  rw [List.all_eq_true]
  intro s hs
  obtain ⟨t, ht, h1, h2⟩ := h s hs
  rw [List.any_eq_true]
  exact ⟨t, ht, by simp; exact ⟨h1, h2⟩⟩

set_option maxRecDepth 4000 in
set_option maxHeartbeats 2000000 in
theorem l04_among_any (few all : List Span) (v v2 : Value) (w : World) (hrow : IsRow (fun t : Kr.Span => [.int .i64 t.lo, .int .i64 t.hi]) 2 w v few) (hrow2 : IsRow (fun t : Kr.Span => [.int .i64 t.lo, .int .i64 t.hi]) 2 w v2 all) :
    Calls Tryz.prog 45 #[v, v2] w fun e w' => e = .returned (.bool (amongB few all)) ∧ w.Exts w' := by
  obtain ⟨p, b, o, cap, rfl, hm, hp, hc⟩ := hrow.ex
  obtain ⟨p2, b2, o2, cap2, rfl, hm2, hp2, hc2⟩ := hrow2.ex
  have HP := Lib.hid hp
  clear hp
  have HC := Lib.hid hc
  clear hc
  have HP2 := Lib.hid hp2
  clear hp2
  have HC2 := Lib.hid hc2
  clear hc2
  clear hrow hrow2
  go_enter Tryz.func45, Tryz.ntmps45
  go_wp2_with fail
  go_loopw [12] (fun i wr => ∃ k : Nat, k ≤ few.length ∧ i = .int .i64 k ∧ Hid (amongB (few.take k) all = true) ∧ w.Exts wr) (fun i _ => few.length - (intOf i).toNat)
  case atStart => exact ⟨0, Nat.zero_le _, rfl, Lib.hid rfl, exq⟩
  case round =>
    obtain ⟨k, hk, rfl, HU, hE⟩ := hrel
    obtain ⟨X, rfl⟩ := hE
    by_cases hlt : k < few.length
    · obtain ⟨rfl, hl⟩ := HP.out (by omega)
      obtain ⟨x, hx⟩ := some_of_lt hlt
      have hcs := HC.out k x hx
      have c0 := hcs 0 _ rfl
      have c1 := hcs 1 _ rfl
      simp only [Nat.add_zero] at c0 c1
      have hup := amongB_snoc (all := all) hx
      rw [HU.out, Bool.true_and] at hup
      have hmiss := amongB_miss (all := all) hx
      have HUP := Lib.hid hup
      clear hup
      have HMISS := Lib.hid hmiss
      clear hmiss
      clear hx hcs
      go_wp2_with fail
      obtain ⟨wo, hwo⟩ : ∃ wo : World, wo = (w.ext X).alloc (.cells #[.int .i64 x.lo, .int .i64 x.hi] 42) := ⟨_, rfl⟩
      rw [← hwo]
      have hE2 : w.Exts wo := by rw [hwo]; exact exq
      have d0 : wo.cell? ⟨(w.ext X).heap.size, 0, none⟩ = some (.int .i64 x.lo) := by rw [hwo]; simp [go_sem]
      have d1 : wo.cell? ⟨(w.ext X).heap.size, 1, none⟩ = some (.int .i64 x.hi) := by rw [hwo]; simp [go_sem]
      clear hwo
      have hLx := Lays.of_cell d0
      go_loopw [7, 18] (fun is i wr => ∃ (m : Nat) (bi : Bool), m ≤ all.length ∧ i = .int .i64 m ∧ is = .bool bi ∧ Hid (bi = within1 (all.take m) x) ∧ wo.Exts wr) (fun _ i _ => all.length - (intOf i).toNat)
      case atStart => exact ⟨0, false, Nat.zero_le _, rfl, rfl, Lib.hid rfl, exq⟩
      case round =>
        obtain ⟨m, bi, hm3, rfl, rfl, HB, hE3⟩ := hrel
        have hE4 : w.Exts _ := hE2.trans hE3
        obtain ⟨X3, rfl⟩ := hE3
        by_cases hlt2 : m < all.length
        · obtain ⟨rfl, hl2⟩ := HP2.out (by omega)
          obtain ⟨y, hy⟩ := some_of_lt hlt2
          have hcs := HC2.out m y hy
          have c20 := hE4.cell (hcs 0 _ rfl)
          have c21 := hE4.cell (hcs 1 _ rfl)
          simp only [Nat.add_zero] at c20 c21
          have hLy := Lays.of_cell c20
          have hnx := within1_snoc (x := x) hy
          rw [← HB.out] at hnx
          have HNX := Lib.hid hnx
          clear hnx
          clear hy hcs hE4
          cases bi
          · rcases Int.lt_or_le x.lo y.lo with h1 | h1
            · go_wp2_with fail
              go_roundw
              case rel => exact ⟨m + 1, false, by omega, by go_num, rfl, Lib.hid (by rw [HNX.out]; simp; omega), exq⟩
              case measure => simp [intOf]; omega
            · rcases Int.lt_or_le y.hi x.hi with h2 | h2
              · go_wp2_with fail
                go_roundw
                case rel => exact ⟨m + 1, false, by omega, by go_num, congrArg Value.bool (by simp; omega), Lib.hid (by rw [HNX.out]; simp; omega), exq⟩
                case measure => simp [intOf]; omega
              · go_wp2_with fail
                go_roundw
                case rel => exact ⟨m + 1, true, by omega, by go_num, rfl, Lib.hid (by rw [HNX.out]; simp; omega), exq⟩
                case measure => simp [intOf]; omega
          · go_wp2_with fail
            go_roundw
            case rel => exact ⟨m + 1, true, by omega, by go_num, rfl, Lib.hid (by rw [HNX.out]; simp), exq⟩
            case measure => simp [intOf]; omega
        · have hmn : m = all.length := by omega
          have hB := HB.out
          rw [hmn, List.take_length] at hB
          clear hmn HB
          cases bi
          · have hfin := HMISS.out hB.symm
            have HF := Lib.hid hfin
            clear hfin
            clear hB
            go_wp2_with fail
            go_ret
            exact ⟨by rw [HF.out]; rfl, hE2.trans exq⟩
          · have HB2 := Lib.hid hB
            clear hB
            go_wp2_with fail
            go_roundw
            case rel => exact ⟨k + 1, by omega, by go_num, Lib.hid (by rw [HUP.out, ← HB2.out]), hE2.trans exq⟩
            case measure => simp [intOf]; omega
    · have hkn : k = few.length := by omega
      have hU := HU.out
      rw [hkn, List.take_length] at hU
      have HU2 := Lib.hid hU
      clear hU
      clear hkn HU
      go_wp2_with fail
      go_ret
      exact ⟨by rw [HU2.out]; rfl, exq⟩
end Go.Proofs.YtfjkiemjmnnbkaaGreatDoor
