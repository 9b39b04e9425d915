/- Hilbert symbols of the drawn numbers, plain: bilinear, and their product over all places is 1. No program in sight. -/
import Derived.Test.YtjhheemppoeecaaTern
import Derived.Test.YtjhheemppoeecaaDnm
namespace Go.Proofs.Ytjhheemppoeecaa

/-! the numbers that are drawn -/
def E0 : List Int := [1]
def E1 : List Int := [(-1), 2, 3, 5, 7]
def E2 : List Int := [(-7), (-5), (-3), (-2), 1, 4, 6, 9, 10, 14, 15, 21, 25, 35, 49]
def E3 : List Int := [(-49), (-35), (-25), (-21), (-15), (-14), (-10), (-9), (-6), (-4), (-1), 2, 3, 5, 7, 8, 12, 18, 20, 27, 28, 30, 42, 45, 50, 63, 70, 75, 98, 105, 125, 147, 175, 245, 343]
def E4 : List Int := [(-343), (-245), (-175), (-147), (-125), (-105), (-98), (-75), (-70), (-63), (-50), (-45), (-42), (-30), (-28), (-27), (-20), (-18), (-12), (-8), (-7), (-5), (-3), (-2), 1, 4, 6, 9, 10, 14, 15, 16, 21, 24, 25, 35, 36, 40, 49, 54, 56, 60, 81, 84, 90, 100, 126, 135, 140, 150, 189, 196, 210, 225, 250, 294, 315, 350, 375, 441, 490, 525, 625, 686, 735, 875, 1029, 1225, 1715, 2401]
def E5 : List Int := [(-2401), (-1715), (-1225), (-1029), (-875), (-735), (-686), (-625), (-525), (-490), (-441), (-375), (-350), (-315), (-294), (-250), (-225), (-210), (-196), (-189), (-150), (-140), (-135), (-126), (-100), (-90), (-84), (-81), (-60), (-56), (-54), (-49), (-40), (-36), (-35), (-25), (-24), (-21), (-16), (-15), (-14), (-10), (-9), (-6), (-4), (-1), 2, 3, 5, 7, 8, 12, 18, 20, 27, 28, 30, 32, 42, 45, 48, 50, 63, 70, 72, 75, 80, 98, 105, 108, 112, 120, 125, 147, 162, 168, 175, 180, 200, 243, 245, 252, 270, 280, 300, 343, 378, 392, 405, 420, 450, 500, 567, 588, 630, 675, 700, 750, 882, 945, 980, 1050, 1125, 1250, 1323, 1372, 1470, 1575, 1750, 1875, 2058, 2205, 2450, 2625, 3087, 3125, 3430, 3675, 4375, 4802, 5145, 6125, 7203, 8575, 12005, 16807]
def DL : List Int := [(-2401), (-1715), (-1225), (-1029), (-875), (-735), (-686), (-625), (-525), (-490), (-441), (-375), (-350), (-343), (-315), (-294), (-250), (-245), (-225), (-210), (-196), (-189), (-175), (-150), (-147), (-140), (-135), (-126), (-125), (-105), (-100), (-98), (-90), (-84), (-81), (-75), (-70), (-63), (-60), (-59), (-58), (-57), (-56), (-55), (-54), (-53), (-52), (-51), (-50), (-49), (-48), (-47), (-46), (-45), (-44), (-43), (-42), (-41), (-40), (-39), (-38), (-37), (-36), (-35), (-34), (-33), (-32), (-31), (-30), (-29), (-28), (-27), (-26), (-25), (-24), (-23), (-22), (-21), (-20), (-19), (-18), (-17), (-16), (-15), (-14), (-13), (-12), (-11), (-10), (-9), (-8), (-7), (-6), (-5), (-4), (-3), (-2), (-1), 1, 2, 3, 4, 5, 6, 7, 8, 9, 10, 11, 12, 13, 14, 15, 16, 17, 18, 19, 20, 21, 22, 23, 24, 25, 26, 27, 28, 29, 30, 31, 32, 33, 34, 35, 36, 37, 38, 39, 40, 41, 42, 43, 44, 45, 46, 47, 48, 49, 50, 51, 52, 53, 54, 55, 56, 57, 58, 59, 60, 63, 70, 72, 75, 80, 81, 84, 90, 98, 100, 105, 108, 112, 120, 125, 126, 135, 140, 147, 150, 162, 168, 175, 180, 189, 196, 200, 210, 225, 243, 245, 250, 252, 270, 280, 294, 300, 315, 343, 350, 375, 378, 392, 405, 420, 441, 450, 490, 500, 525, 567, 588, 625, 630, 675, 686, 700, 735, 750, 875, 882, 945, 980, 1029, 1050, 1125, 1225, 1250, 1323, 1372, 1470, 1575, 1715, 1750, 1875, 2058, 2205, 2401, 2450, 2625, 3087, 3125, 3430, 3675, 4375, 4802, 5145, 6125, 7203, 8575, 12005, 16807]
def stepB (e e' : List Int) : Bool := e.all fun y => ([2, 3, 5, 7, -1] : List Int).all fun f => e'.contains (y * f)
theorem step_in {e e' : List Int} (h : stepB e e' = true) {y f : Int} (hy : y ∈ e) (hf : f ∈ ([2, 3, 5, 7, -1] : List Int)) : y * f ∈ e' := by
  have h1 := List.all_eq_true.1 h y hy
  have h2 := List.all_eq_true.1 h1 f hf
  exact List.contains_iff_mem.1 h2
set_option maxRecDepth 100000
theorem st0 : stepB E0 E1 = true := by decide +kernel
theorem st1 : stepB E1 E2 = true := by decide +kernel
theorem st2 : stepB E2 E3 = true := by decide +kernel
theorem st3 : stepB E3 E4 = true := by decide +kernel
theorem st4 : stepB E4 E5 = true := by decide +kernel
theorem subs : ((E0 ++ E1 ++ E2 ++ E3 ++ E4 ++ E5).all fun x => DL.contains x) = true := by decide +kernel
theorem small : ((List.range 120).all fun x => ((x : Int) - 60 == 0) || DL.contains ((x : Int) - 60)) = true := by decide +kernel
theorem prod0 {x : Int} (h : prodN 0 x) : x ∈ E0 := by
  have : x = 1 := h
  rw [this]; decide
theorem prod1 {x : Int} (h : prodN 1 x) : x ∈ E1 := by obtain ⟨y, f, hy, hf, rfl⟩ := h; exact step_in st0 (prod0 hy) hf
theorem prod2 {x : Int} (h : prodN 2 x) : x ∈ E2 := by obtain ⟨y, f, hy, hf, rfl⟩ := h; exact step_in st1 (prod1 hy) hf
theorem prod3 {x : Int} (h : prodN 3 x) : x ∈ E3 := by obtain ⟨y, f, hy, hf, rfl⟩ := h; exact step_in st2 (prod2 hy) hf
theorem prod4 {x : Int} (h : prodN 4 x) : x ∈ E4 := by obtain ⟨y, f, hy, hf, rfl⟩ := h; exact step_in st3 (prod3 hy) hf
theorem prod5 {x : Int} (h : prodN 5 x) : x ∈ E5 := by obtain ⟨y, f, hy, hf, rfl⟩ := h; exact step_in st4 (prod4 hy) hf
theorem in_all {x : Int} (h : x ∈ E0 ++ E1 ++ E2 ++ E3 ++ E4 ++ E5) : x ∈ DL := List.contains_iff_mem.1 (List.all_eq_true.1 subs x h)
/-- a drawn number that is not too great lies in the list -/
theorem DN.list {x : Int} (h : DN x) (h0 : x ≠ 0) (h1 : -100000 ≤ x) (h2 : x ≤ 100000) : x ∈ DL := by
  rcases h with h | ⟨k, hk, h⟩ | h
  · simp only [List.mem_cons, List.not_mem_nil, or_false] at h
    rcases h with rfl | rfl | rfl | rfl | rfl | rfl | rfl
    · exact absurd rfl h0
    · decide +kernel
    · decide +kernel
    all_goals omega
  · have : x ∈ E0 ++ E1 ++ E2 ++ E3 ++ E4 ++ E5 := by
      simp only [List.mem_append]
      rcases (show k = 0 ∨ k = 1 ∨ k = 2 ∨ k = 3 ∨ k = 4 ∨ k = 5 by omega) with rfl | rfl | rfl | rfl | rfl | rfl
      · exact .inl (.inl (.inl (.inl (.inl (prod0 h)))))
      · exact .inl (.inl (.inl (.inl (.inr (prod1 h)))))
      · exact .inl (.inl (.inl (.inr (prod2 h))))
      · exact .inl (.inl (.inr (prod3 h)))
      · exact .inl (.inr (prod4 h))
      · exact .inr (prod5 h)
    exact in_all this
  · have h3 := List.all_eq_true.1 small (x + 60).toNat (List.mem_range.2 (by omega))
    rw [show (((x + 60).toNat : Nat) : Int) - 60 = x by omega] at h3
    rw [Bool.or_eq_true, beq_iff_eq] at h3
    exact h3.elim (fun e => absurd e h0) List.contains_iff_mem.1
/-- the odd prime numbers that divide drawn numbers -/
def OP : List Int := [3, 5, 7, 11, 13, 17, 19, 23, 29, 31, 37, 41, 43, 47, 53, 59]
theorem facs_op : (DL.all fun x => (facsOf (ab x)).all fun q => q == 2 || OP.contains q) = true := by decide +kernel
theorem DL_facs {x q : Int} (hx : x ∈ DL) (hq : q ∈ facsOf (ab x)) : q = 2 ∨ q ∈ OP := by
  have h1 := List.all_eq_true.1 (List.all_eq_true.1 facs_op x hx) q hq
  rw [Bool.or_eq_true, beq_iff_eq] at h1
  exact h1.imp id List.contains_iff_mem.1
theorem DL_bd : (DL.all fun x => x != 0 && inB x (-16807) 16807) = true := by decide +kernel
theorem DL_small {x : Int} (hx : x ∈ DL) : x ≠ 0 ∧ -16807 ≤ x ∧ x ≤ 16807 := by
  have h1 := List.all_eq_true.1 DL_bd x hx
  rw [Bool.and_eq_true] at h1
  exact ⟨by simpa using h1.1, inB_true h1.2⟩

/-! residues -/
theorem md_eq {a m : Int} (hm : 0 < m) : md a m = a % m := by
  unfold md
  rw [← Int.emod_emod_of_dvd (a.tmod m + m) (Int.dvd_refl m)]
  have h := Int.mul_tdiv_add_tmod a m
  have e : a.tmod m + m = a + m * (1 - a.tdiv m) := by rw [Int.mul_sub]; omega
  rw [e, Int.add_mul_emod_self_left, Int.emod_emod_of_dvd _ (Int.dvd_refl m)]
def legR (p r : Int) : Int := if pw 1 r ((p - 1) / 2) p = 1 then 0 else 1
theorem leg_legR {u p : Int} (hp : 0 < p) : leg u p = legR p (u % p) := by rw [leg, md_eq hp, legR]
def legOk (p : Int) : Bool := (List.range p.toNat).all fun r => (List.range p.toNat).all fun s => r == 0 || (s == 0 || legR p ((r : Int) * s % p) == (legR p r + legR p s) % 2)
theorem leg_all : (OP.all legOk) = true := by decide +kernel
theorem leg_mul {p u w : Int} (hp : p ∈ OP) (hp0 : 3 ≤ p) (hu : u % p ≠ 0) (hw : w % p ≠ 0) : leg (u * w) p = (leg u p + leg w p) % 2 := by
  have h1 := List.all_eq_true.1 leg_all p hp
  have b1 := Int.emod_nonneg u (b := p) (by omega)
  have b2 := Int.emod_lt_of_pos u (b := p) (by omega)
  have c1 := Int.emod_nonneg w (b := p) (by omega)
  have c2 := Int.emod_lt_of_pos w (b := p) (by omega)
  have h2 := List.all_eq_true.1 (List.all_eq_true.1 h1 (u % p).toNat (List.mem_range.2 (by omega))) (w % p).toNat (List.mem_range.2 (by omega))
  rw [Int.toNat_of_nonneg b1, Int.toNat_of_nonneg c1] at h2
  rw [leg_legR (by omega), leg_legR (by omega), leg_legR (by omega), Int.mul_emod]
  simp only [Bool.or_eq_true, beq_iff_eq] at h2
  rcases h2 with h2 | h2 | h2
  · omega
  · omega
  · exact h2
end Go.Proofs.Ytjhheemppoeecaa
