/- Covers, the library's searches and the program's OptionsWith. No condition beyond those stated. -/
import Derived.Test.YtdcoppighkbofaaHZ
import Derived.Test.YtdcoppighkbofaaGC
import Derived.Test.YtdcoppighkbofaaGU
import Derived.Test.YtdcoppighkbofaaGH
import Derived.Test.YtdcoppighkbofaaGF
set_option linter.unusedVariables false
set_option linter.unusedSimpArgs false
namespace Go.Proofs.Ytdcoppighkbofaa
open Go.RowKit

set_option maxHeartbeats 400000 in
theorem indexB_any (B D c n : Nat) (f : Nat → Bool) (b : Bool) (w : World) (ho : OS w B 4 1 (some ⟨D, 0, none⟩) n c (flags n f)) :
    Calls Try.prog 57 #[.slice (some ⟨D, 0, none⟩) n c, .bool b] w fun e w' => ∃ r : Int, e = .returned (.int .i64 r) ∧ -1 ≤ r ∧ r ≤ 9223372036854775807 ∧ (0 ≤ r ↔ ∃ x, x < n ∧ f x = b) ∧ w = w' := by
  have hcap := ho.cap
  go_enter Try.func57, Try.ntmps57
  go_wp2
  go_loopw [5, 8] (fun _ i wr => ∃ k : Nat, k ≤ n ∧ i = .int .i64 k ∧ w = wr ∧ ∀ x, x < k → f x ≠ b) (fun _ i _ => n - (intOf i).toNat)
  case atStart => exact ⟨0, Nat.zero_le _, rfl, by trivial, fun x h => absurd h (by omega)⟩
  case round =>
    obtain ⟨k, hk, rfl, rfl, hno⟩ := hrel
    by_cases hlt : k < n
    · obtain ⟨g', hg', cd, -⟩ := ho.cell (flags_at hlt)
      cases hg'
      by_cases hq : f k = b
      · rw [hq] at cd
        have H := Lib.hid (show ∃ x, x < n ∧ f x = b from ⟨k, hlt, hq⟩)
        clear hno hq
        go_wp2
        go_ret
        exact ⟨k, rfl, by omega, by omega, ⟨fun _ => H.out, fun _ => by omega⟩, rfl⟩
      · have hqb : (b == f k) = false := by
          cases b <;> cases h : f k <;> simp_all
        have H := Lib.hid (show ∀ x, x < k + 1 → f x ≠ b from fun x hx => by
          rcases Nat.lt_succ_iff_lt_or_eq.1 hx with h | h
          · exact hno x h
          · rw [h]; exact hq)
        clear hno hq
        generalize f k = q at *
        go_wp2
        go_roundw
        case rel => exact ⟨k + 1, by omega, by go_num, by trivial, H.out⟩
        case measure => simp [intOf]; omega
    · obtain rfl : k = n := by omega
      have H := Lib.hid hno
      clear hno
      go_wp2
      go_ret
      exact ⟨-1, rfl, by omega, by omega, ⟨fun h => by omega, fun ⟨x, h1, h2⟩ => absurd h2 (H.out x h1)⟩, rfl⟩
theorem containsB_any (B D c n : Nat) (f : Nat → Bool) (b : Bool) (w : World) (ho : OS w B 4 1 (some ⟨D, 0, none⟩) n c (flags n f)) :
    Calls Try.prog 47 #[.slice (some ⟨D, 0, none⟩) n c, .bool b] w fun e w' => (e = .returned (.bool (tB (∃ x, x < n ∧ f x = b)))) ∧ w = w' := by
  go_enter Try.func47, Try.ntmps47
  go_wp2_with fail
  refine (indexB_any B D c n f b _ ho).mono ?_
  rintro e w1 ⟨r, rfl, h1, h2, h3, rfl⟩
  have H := Lib.hid h3
  clear h3
  go_wp2
  go_ret
  refine ⟨?_, rfl⟩
  by_cases h : 0 ≤ r
  · rw [tB_yes (H.out.1 h)]; simp [h]
  · rw [tB_no (fun hh => h (H.out.2 hh))]; simp [h]
set_option maxHeartbeats 400000 in
theorem indexI_any (A : Option Addr) (n c : Nat) (zs : List Int) (x : Int) (w : World) (ha : RI w A n zs) (hn : n ≤ 9223372036854775807) :
    Calls Try.prog 56 #[.slice A n c, .int .i64 x] w fun e w' => ∃ r : Int, e = .returned (.int .i64 r) ∧ -1 ≤ r ∧ r ≤ 9223372036854775807 ∧ (0 ≤ r ↔ x ∈ zs) ∧ w = w' := by
  have hla := Lib.hid ha.len
  go_enter Try.func56, Try.ntmps56
  go_wp2
  go_loopw [5, 8] (fun _ i wr => ∃ k : Nat, k ≤ n ∧ i = .int .i64 k ∧ w = wr ∧ ∀ j, j < k → nth zs j ≠ x) (fun _ i _ => n - (intOf i).toNat)
  case atStart => exact ⟨0, Nat.zero_le _, rfl, by trivial, fun x h => absurd h (by omega)⟩
  case round =>
    obtain ⟨k, hk, rfl, rfl, hno⟩ := hrel
    by_cases hlt : k < n
    · obtain ⟨a, rfl, hca, hia⟩ := ha.get hlt
      by_cases hq : nth zs k = x
      · rw [hq] at hca
        have H := Lib.hid (show x ∈ zs by rw [← hq, nth_get (by rw [hla.out]; exact hlt)]; exact List.getElem_mem _)
        clear hno hq hia
        go_wp2
        go_ret
        exact ⟨k, rfl, by omega, by omega, ⟨fun _ => H.out, fun _ => by omega⟩, rfl⟩
      · have hqb : (x == nth zs k) = false := by simp; exact fun e => hq e.symm
        have H := Lib.hid (show ∀ j, j < k + 1 → nth zs j ≠ x from fun j hx => by
          rcases Nat.lt_succ_iff_lt_or_eq.1 hx with h | h
          · exact hno j h
          · rw [h]; exact hq)
        clear hno hq
        generalize nth zs k = q at *
        go_wp2
        go_roundw
        case rel => exact ⟨k + 1, by omega, by go_num, by trivial, H.out⟩
        case measure => simp [intOf]; omega
    · obtain rfl : k = n := by omega
      have H := Lib.hid hno
      clear hno
      go_wp2
      go_ret
      refine ⟨-1, rfl, by omega, by omega, ⟨fun h => by omega, fun h => ?_⟩, rfl⟩
      obtain ⟨j, hj, rfl⟩ := List.mem_iff_getElem.1 h
      exact absurd (nth_get hj) (H.out j (by rw [← hla.out]; exact hj))
theorem containsI_any (A : Option Addr) (n c : Nat) (zs : List Int) (x : Int) (w : World) (ha : RI w A n zs) (hn : n ≤ 9223372036854775807) :
    Calls Try.prog 45 #[.slice A n c, .int .i64 x] w fun e w' => e = .returned (.bool (memB zs x)) ∧ w = w' := by
  go_enter Try.func45, Try.ntmps45
  go_wp2_with fail
  refine (indexI_any A n c zs x _ ha hn).mono ?_
  rintro e w1 ⟨r, rfl, h1, h2, h3, rfl⟩
  have H := Lib.hid h3
  clear h3
  go_wp2
  go_ret
  refine ⟨?_, rfl⟩
  by_cases h : 0 ≤ r
  · rw [memB_true.2 (H.out.1 h)]; simp [h]
  · rw [memB_false.2 (fun hh => h (H.out.2 hh))]; simp [h]
/-- a function value that tells of each number of a list whether p holds -/
def AskIm (g : Nat) (lb : Array Value) (p : Int → Bool) (zs : List Int) (w : World) : Prop :=
  ∀ (x : Int) (W : World), Below w.heap.size w W → x ∈ zs → I64 x → Calls Try.prog g (#[.int .i64 x] ++ lb) W (RetB W (p x))
set_option maxHeartbeats 1000000 in
theorem indexFuncIm (g : Nat) (lb : Array Value) (eg : ∀ args w, (callFunc g args).run Try.prog w = .ok (.enter g args) w) (p : Int → Bool) (A : Option Addr) (n c : Nat) (zs : List Int) (w : World) (ha : RI w A n zs) (hn : n ≤ 9223372036854775807) (hp : AskIm g lb p zs w) :
    Calls Try.prog 80 #[.slice A n c, .func (.func g) #[] lb] w (SomeIdx w (zs.any p)) := by
  have hla := Lib.hid ha.len
  go_enter Try.func80, Try.ntmps80
  go_wp2
  go_loopw [5, 8] (fun _ i wr => ∃ k : Nat, k ≤ n ∧ i = .int .i64 k ∧ Below w.heap.size w wr ∧ noneTo p zs k) (fun _ i _ => n - (intOf i).toNat)
  case atStart => exact ⟨0, Nat.zero_le _, rfl, Below.refl _ _, fun j _ h => absurd h (by omega)⟩
  case round =>
    obtain ⟨k, hk, rfl, hb, hnone⟩ := hrel
    by_cases hlt : k < n
    · obtain ⟨a, rfl, hca, hia⟩ := (ha.keep hb).get hlt
      have hz : zs[k]? = some (nth zs k) := nth_some (by rw [hla.out]; exact hlt)
      have hm := List.mem_of_getElem? hz
      have hcall := fun W h1 h2 => hp (nth zs k) W h1 hm h2
      cases hq : p (nth zs k) with
      | true =>
        rw [hq] at hcall
        have H := Lib.hid (any_hit hz hq)
        clear hnone hz hq hm
        go_wp2_with (go_at_fn g; refine (hcall _ hb hia).mono ?_; rintro e w1 ⟨rfl, hb1⟩)
        go_ret
        exact ⟨k, rfl, by omega, by omega, by rw [H.out]; simp, hb.trans (hb1.mono hb.size)⟩
      | false =>
        rw [hq] at hcall
        have H := Lib.hid (noneTo_step hnone hz hq)
        clear hnone hz hq hm
        go_wp2_with (go_at_fn g; refine (hcall _ hb hia).mono ?_; rintro e w1 ⟨rfl, hb1⟩)
        go_roundw
        case rel => exact ⟨k + 1, by omega, by go_num, hb.trans (hb1.mono hb.size), H.out⟩
        case measure => simp [intOf]; omega
    · have H := Lib.hid (show zs.any p = false from noneTo_all (by rw [hla.out]; rwa [show k = n by omega] at hnone))
      clear hnone
      go_wp2
      go_ret
      exact ⟨-1, rfl, by omega, by omega, by rw [H.out]; simp, hb⟩
set_option maxHeartbeats 400000 in
theorem containsFuncIm (g : Nat) (lb : Array Value) (eg : ∀ args w, (callFunc g args).run Try.prog w = .ok (.enter g args) w) (p : Int → Bool) (A : Option Addr) (n c : Nat) (zs : List Int) (w : World) (ha : RI w A n zs) (hn : n ≤ 9223372036854775807) (hp : AskIm g lb p zs w) :
    Calls Try.prog 72 #[.slice A n c, .func (.func g) #[] lb] w (RetB w (zs.any p)) := by
  go_enter Try.func72, Try.ntmps72
  go_wp2_with fail
  refine (indexFuncIm g lb eg p A n c zs _ ha hn hp).mono ?_
  rintro e w1 ⟨r, rfl, h1, h2, h3, hb⟩
  have H := Lib.hid h3
  clear h3
  go_wp2
  go_ret
  exact ⟨by rw [← H.out]; rfl, hb⟩
def withTo (os : List (List Int)) (x : Int) (k : Nat) : List Nat := (List.range k).filter fun i => memB (row os i) x
theorem withTo_yes {os : List (List Int)} {x : Int} {k : Nat} (h : memB (row os k) x = true) : intsN (withTo os x (k + 1)) = intsN (withTo os x k) ++ [(k : Int)] := by
  unfold withTo intsN
  rw [List.range_succ, List.filter_append]
  simp [h]
theorem withTo_no {os : List (List Int)} {x : Int} {k : Nat} (h : memB (row os k) x = false) : withTo os x (k + 1) = withTo os x k := by
  unfold withTo
  rw [List.range_succ, List.filter_append]
  simp [h]
theorem withTo_le (os : List (List Int)) (x : Int) (k : Nat) : (withTo os x k).length ≤ k := Nat.le_trans (List.length_filter_le _ _) (by simp)
set_option maxRecDepth 100000 in
set_option maxHeartbeats 2000000 in
theorem optionsWith_any (v : Int) (OA : Option Addr) (on oc : Nat) (os : List (List Int)) (x : Int) (w : World) (ho : RR w OA on os) (hC : Cover v os) (hx : 0 ≤ x ∧ x < v) :
    Calls Try.prog 34 #[.agg #[.int .i64 v, .slice OA on oc], .int .i64 x] w (RetIC w 2 (intsN (withP os x)) 0) := by
  obtain ⟨W1, hW1⟩ : ∃ W1, w.alloc (.cells #[.int .i64 v, .slice OA on oc] 28) = W1 := ⟨_, rfl⟩
  have hb1 : Below w.heap.size w W1 := hW1 ▸ below_alloc w _
  have X : Blk W1 w.heap.size 28 #[.int .i64 v, .slice OA on oc] := hW1 ▸ Blk.new w _ _
  obtain ⟨x0, x1⟩ := X.cells2
  have hol := ho.len
  have hon : on ≤ 256 := by have := hC.len; omega
  have hv1 := hC.v1
  have hv2 := hC.v2
  have hval := validCover_any v OA on oc os W1 (ho.keep hb1) (by omega)
  rw [tB_yes hC] at hval
  have hin : inB x 0 (v - 1) = true := inB_mk (by omega)
  have HO := Lib.hid ho
  have HOL := Lib.hid hol
  clear ho hol hC
  go_enter Try.func34, Try.ntmps34
  go_wp2_with (first | (go_at_call 32; refine hval.mono ?_; rintro e w2 ⟨rfl, hb2⟩; have y0 := below_cell hb2 x0; have y1 := below_cell hb2 x1; have hb2' := hb1.trans (hb2.mono hb1.size)) | (go_at_call 41; refine (within_any _ _ _ _).mono ?_; rintro e w' ⟨rfl, rfl⟩; rw [hin]))
  clear hval
  go_loopw [6, 7, 8, 21] (fun l _ _ i wr => ∃ (k : Nat) (A : Option Addr) (m c : Nat), k ≤ on ∧ i = .int .i64 k ∧ l = .slice A m c ∧ OI wr w.heap.size 2 A m c (intsN (withTo os x k)) ∧ Below w.heap.size w wr) (fun _ _ _ i _ => on - (intOf i).toNat)
  case atStart => exact ⟨0, none, 0, 0, Nat.zero_le _, rfl, rfl, OI.nil_ _ _ _, hb2'⟩
  case round =>
    clear x0 x1 y0 y1 hb2 hb2' X hW1 hb1
    obtain ⟨k, A, m, c, hk, rfl, rfl, hl, hb⟩ := hrel
    by_cases hlt : k < on
    · obtain ⟨a1, A1, n1, c1, rfl, co, hn1, hc1, hr1⟩ := (HO.out.keep hb).get hlt
      have hcall := containsI_any A1 n1 c1 _ x _ hr1 (by omega)
      cases hm : memB (row os k) x with
      | true =>
        rw [hm] at hcall
        have HN := Lib.hid (withTo_yes hm)
        have hml := hl.len
        have hmb : m ≤ k := by
          have := withTo_le os x k
          simp [intsN] at hml
          omega
        have hki : I64 (k : Int) := by unfold I64; omega
        have hbs := hb.size
        clear hm hml
        go_wp2_with (first | (go_at_call 45; refine hcall.mono ?_; rintro e w' ⟨rfl, rfl⟩) | (at_builtin; refine app_int _ rfl (.tmp 29) (.tmp 31) rfl w.heap.size A m c _ rfl hl (k : Int) wr.heap.size rfl rfl hki (by omega) hbs ?_; intro A4 c4 w4 ho4 hg4 hf4; have hb4 := below_own hb hg4 hbs (fun k hk => (hl.os.lt hk).1)))
        rw [← HN.out] at ho4
        go_roundw
        case rel => exact ⟨k + 1, A4, m + 1, c4, by omega, by go_num, rfl, ho4, hb4⟩
        case measure => simp [intOf]; omega
      | false =>
        rw [hm] at hcall
        rw [← withTo_no hm] at hl
        clear hm
        go_wp2_with (go_at_call 45; refine hcall.mono ?_; rintro e w' ⟨rfl, rfl⟩)
        go_roundw
        case rel => exact ⟨k + 1, A, m, c, by omega, by go_num, rfl, hl, hb⟩
        case measure => simp [intOf]; omega
    · obtain rfl : k = on := by omega
      rw [show withTo os x k = withP os x by rw [← HOL.out]; rfl] at hl
      go_wp2
      go_ret2
      exact ⟨_, _, _, rfl, hl, hb⟩
end Go.Proofs.Ytdcoppighkbofaa
/- Covers, the program's search: its state in memory. No condition beyond those stated. -/
namespace Go.Proofs.Ytdcoppighkbofaa
open Go.RowKit

def withL (os : List (List Int)) (v : Nat) : List (List Int) := (List.range v).map fun x => intsN (withP os (x : Nat))
theorem withL_len (os : List (List Int)) (v : Nat) : (withL os v).length = v := by simp [withL]
theorem withL_row {os : List (List Int)} {v x : Nat} (h : x < v) : row (withL os v) x = intsN (withP os (x : Nat)) := by
  rw [row_get (by rw [withL_len]; exact h)]
  simp [withL]
/-- the program's search in memory: the covered items in the block behind w0, the struct in the next one, the options with each item below M, all else from M on -/
structure ICv (w0 w : World) (M v : Nat) (OA : Option Addr) (on oc : Nat) (os : List (List Int)) (WA : Option Addr) (wk : Nat) (C : Option Addr) (m mc : Nat) (FA : Option Addr) (fn fk : Nat) (left nodes : Int) (spent first : Bool) (dn : Nat → Bool) (ch : List Nat) (vs : List Sl) (found : List (List Int)) : Prop where
  x : Blk w (w0.heap.size + 1) 57 #[.int .i64 left, .bool spent, .int .i64 v, .slice OA on oc, .slice WA v wk, .bool first, .slice (some ⟨w0.heap.size, 0, none⟩) v v, .slice C m mc, .int .i64 nodes, .slice FA fn fk]
  b : Below w0.heap.size w0 w
  o0 : RR w0 OA on os
  M2 : w0.heap.size + 2 ≤ M
  M3 : M ≤ w.heap.size
  d : OS w w0.heap.size 4 1 (some ⟨w0.heap.size, 0, none⟩) v v (flags v dn)
  wi : ORd w (w0.heap.size + 2) M 32 2 WA v wk (withL os v)
  c : OI w M 2 C m mc (intsN ch)
  r : ORv w M 32 2 FA fn fk vs found
  rc : ∀ (j : Nat) (u : Sl), vs[j]? = some u → blk u.1 = none ∨ blk u.1 ≠ blk C
section
variable {w0 w w' : World} {M v : Nat} {OA : Option Addr} {on oc : Nat} {os : List (List Int)} {WA : Option Addr} {wk : Nat} {C C' : Option Addr} {m mc m' mc' : Nat} {FA FA' : Option Addr} {fn fk fk' : Nat} {left nodes : Int} {spent first : Bool} {dn dn' : Nat → Bool} {ch ch' : List Nat} {vs : List Sl} {found : List (List Int)}
theorem ICv.cells (h : ICv w0 w M v OA on oc os WA wk C m mc FA fn fk left nodes spent first dn ch vs found) :
    (w.cell? ⟨w0.heap.size + 1, 0, none⟩ = some (.int .i64 left) ∧ w.cell? ⟨w0.heap.size + 1, 1, none⟩ = some (.bool spent) ∧ w.cell? ⟨w0.heap.size + 1, 2, none⟩ = some (.int .i64 v) ∧ w.cell? ⟨w0.heap.size + 1, 3, none⟩ = some (.slice OA on oc)) ∧
    w.cell? ⟨w0.heap.size + 1, 4, none⟩ = some (.slice WA v wk) ∧ w.cell? ⟨w0.heap.size + 1, 5, none⟩ = some (.bool first) ∧ w.cell? ⟨w0.heap.size + 1, 6, none⟩ = some (.slice (some ⟨w0.heap.size, 0, none⟩) v v) ∧
    w.cell? ⟨w0.heap.size + 1, 7, none⟩ = some (.slice C m mc) ∧ w.cell? ⟨w0.heap.size + 1, 8, none⟩ = some (.int .i64 nodes) ∧ w.cell? ⟨w0.heap.size + 1, 9, none⟩ = some (.slice FA fn fk) :=
  ⟨⟨h.x.cell 0, h.x.cell 1, h.x.cell 2, h.x.cell 3⟩, h.x.cell 4, h.x.cell 5, h.x.cell 6, h.x.cell 7, h.x.cell 8, h.x.cell 9⟩
theorem ICv.o (h : ICv w0 w M v OA on oc os WA wk C m mc FA fn fk left nodes spent first dn ch vs found) : RR w OA on os := h.o0.keep h.b
theorem ICv.below (h : ICv w0 w M v OA on oc os WA wk C m mc FA fn fk left nodes spent first dn ch vs found) (hb : Below w.heap.size w w') : ICv w0 w' M v OA on oc os WA wk C m mc FA fn fk left nodes spent first dn ch vs found :=
  ⟨h.x.after hb, h.b.trans (hb.mono h.b.size), h.o0, h.M2, Nat.le_trans h.M3 hb.size, h.d.below hb, h.wi.below hb, h.c.below hb, h.r.below hb, h.rc⟩
theorem size_setCell' (w : World) (p : Addr) (u : Value) : (w.setCell p u).heap.size = w.heap.size := by simp [World.setCell]
/-- a cell of the struct is stored -/
theorem ICv.put (h : ICv w0 w M v OA on oc os WA wk C m mc FA fn fk left nodes spent first dn ch vs found) (i : Nat) (u : Value) :
    (∀ cs, Blk w (w0.heap.size + 1) 57 cs → Blk (w.setCell ⟨w0.heap.size + 1, i, none⟩ u) (w0.heap.size + 1) 57 (cs.setIfInBounds i u)) ∧ Below w0.heap.size w0 (w.setCell ⟨w0.heap.size + 1, i, none⟩ u) ∧ M ≤ (w.setCell ⟨w0.heap.size + 1, i, none⟩ u).heap.size ∧
    OS (w.setCell ⟨w0.heap.size + 1, i, none⟩ u) w0.heap.size 4 1 (some ⟨w0.heap.size, 0, none⟩) v v (flags v dn) ∧ ORd (w.setCell ⟨w0.heap.size + 1, i, none⟩ u) (w0.heap.size + 2) M 32 2 WA v wk (withL os v) ∧
    OI (w.setCell ⟨w0.heap.size + 1, i, none⟩ u) M 2 C m mc (intsN ch) ∧ ORv (w.setCell ⟨w0.heap.size + 1, i, none⟩ u) M 32 2 FA fn fk vs found := by
  have hM := h.M2
  have hlow : (⟨w0.heap.size + 1, i, none⟩ : Addr).block < M := by show w0.heap.size + 1 < M; omega
  refine ⟨fun cs hc => hc.set_ i u, h.b.setCell (by show w0.heap.size ≤ w0.heap.size + 1; omega) _, by rw [size_setCell']; exact h.M3, h.d.setFar (p := ⟨w0.heap.size + 1, i, none⟩) (by simp [blk]) u, h.wi.mid (Mid.set (B := w0.heap.size + 1) (D := w0.heap.size + 2) (Nat.le_refl _) (Nat.lt_succ_self _) u) (.inl (Nat.le_refl _)), h.c.setLow hlow u, h.r.low hlow u⟩
theorem ICv.left_ (h : ICv w0 w M v OA on oc os WA wk C m mc FA fn fk left nodes spent first dn ch vs found) (u : Int) :
    ICv w0 (w.setCell ⟨w0.heap.size + 1, 0, none⟩ (.int .i64 u)) M v OA on oc os WA wk C m mc FA fn fk u nodes spent first dn ch vs found := by
  obtain ⟨h1, h2, h3, h4, h5, h6, h7⟩ := h.put 0 (.int .i64 u)
  exact ⟨h1 _ h.x, h2, h.o0, h.M2, h3, h4, h5, h6, h7, h.rc⟩
theorem ICv.spent_ (h : ICv w0 w M v OA on oc os WA wk C m mc FA fn fk left nodes spent first dn ch vs found) (u : Bool) :
    ICv w0 (w.setCell ⟨w0.heap.size + 1, 1, none⟩ (.bool u)) M v OA on oc os WA wk C m mc FA fn fk left nodes u first dn ch vs found := by
  obtain ⟨h1, h2, h3, h4, h5, h6, h7⟩ := h.put 1 (.bool u)
  exact ⟨h1 _ h.x, h2, h.o0, h.M2, h3, h4, h5, h6, h7, h.rc⟩
theorem ICv.nodes_ (h : ICv w0 w M v OA on oc os WA wk C m mc FA fn fk left nodes spent first dn ch vs found) (u : Int) :
    ICv w0 (w.setCell ⟨w0.heap.size + 1, 8, none⟩ (.int .i64 u)) M v OA on oc os WA wk C m mc FA fn fk left u spent first dn ch vs found := by
  obtain ⟨h1, h2, h3, h4, h5, h6, h7⟩ := h.put 8 (.int .i64 u)
  exact ⟨h1 _ h.x, h2, h.o0, h.M2, h3, h4, h5, h6, h7, h.rc⟩
/-- a flag is stored -/
theorem ICv.flag (h : ICv w0 w M v OA on oc os WA wk C m mc FA fn fk left nodes spent first dn ch vs found) (i : Nat) (b : Bool) (he : ∀ x, x < v → dn' x = if x = i then b else dn x) :
    ICv w0 (w.setCell ⟨w0.heap.size, i, none⟩ (.bool b)) M v OA on oc os WA wk C m mc FA fn fk left nodes spent first dn' ch vs found := by
  have hM := h.M2
  have hlow : (⟨w0.heap.size, i, none⟩ : Addr).block < M := by show w0.heap.size < M; omega
  have hd := h.d.set i (.bool b)
  rw [flags_set, ← flags_congr he] at hd
  exact ⟨h.x.far (p := ⟨w0.heap.size, i, none⟩) (by show w0.heap.size + 1 ≠ w0.heap.size; omega) _, h.b.setCell (Nat.le_refl _) _, h.o0, h.M2, by rw [size_setCell']; exact h.M3, hd,
    h.wi.mid (Mid.set (B := w0.heap.size) (D := w0.heap.size + 1) (Nat.le_refl _) (Nat.lt_succ_self _) _) (.inl (by omega)), h.c.setLow hlow _, h.r.low hlow _, h.rc⟩
/-- a row of the search's own has grown: the others are as they were -/
theorem ICv.grow (h : ICv w0 w M v OA on oc os WA wk C m mc FA fn fk left nodes spent first dn ch vs found) {r : Option Nat} (hg : w.grownBy w' r) (hr : ∀ k, r = some k → M ≤ k ∧ k < w.heap.size) :
    Blk w' (w0.heap.size + 1) 57 #[.int .i64 left, .bool spent, .int .i64 v, .slice OA on oc, .slice WA v wk, .bool first, .slice (some ⟨w0.heap.size, 0, none⟩) v v, .slice C m mc, .int .i64 nodes, .slice FA fn fk] ∧ Below w0.heap.size w0 w' ∧ M ≤ w'.heap.size ∧
    OS w' w0.heap.size 4 1 (some ⟨w0.heap.size, 0, none⟩) v v (flags v dn) ∧ ORd w' (w0.heap.size + 2) M 32 2 WA v wk (withL os v) := by
  have hM := h.M2
  have hM3 := h.M3
  refine ⟨h.x.grown hg (fun e => by have := hr _ e.symm; omega), h.b.grown hg (by omega) (fun k hk => by have := hr k hk; omega), Nat.le_trans h.M3 hg.size, h.d.kept hg (.inr (fun e => by have := hr w0.heap.size e.symm; omega)), h.wi.mid (Mid.grown (B := M) (D := w.heap.size) hg hr) (.inr (Nat.le_refl _))⟩
/-- a choice more -/
theorem ICv.push (h : ICv w0 w M v OA on oc os WA wk C m mc FA fn fk left nodes spent first dn ch vs found) (hg : w.grownBy w' (blk C)) (hc : OI w' M 2 C' m' mc' (intsN ch')) (hn : blk C' = blk C ∨ ∃ k, blk C' = some k ∧ w.heap.size ≤ k) :
    ICv w0 (w'.setCell ⟨w0.heap.size + 1, 7, none⟩ (.slice C' m' mc')) M v OA on oc os WA wk C' m' mc' FA fn fk left nodes spent first dn ch' vs found := by
  have hM := h.M2
  have hlow : (⟨w0.heap.size + 1, 7, none⟩ : Addr).block < M := by show w0.heap.size + 1 < M; omega
  obtain ⟨g1, g2, g3, g4, g5⟩ := h.grow hg (fun k hk => h.c.os.lt hk)
  refine ⟨g1.set_ 7 _, g2.setCell (by show w0.heap.size ≤ w0.heap.size + 1; omega) _, h.o0, h.M2, by rw [size_setCell']; exact g3, g4.setFar (p := ⟨w0.heap.size + 1, 7, none⟩) (by simp [blk]) _, g5.mid (Mid.set (B := w0.heap.size + 1) (D := w0.heap.size + 2) (Nat.le_refl _) (Nat.lt_succ_self _) _) (.inl (Nat.le_refl _)), hc.setLow hlow _,
    (h.r.kept hg (OS.typed h.r.os h.c.os (by decide)) h.rc).low hlow _, fun j u hu => ?_⟩
  rcases hn with e | ⟨k, e, hk⟩
  · rw [e]; exact h.rc j u hu
  · rw [e]
    refine .inr fun e' => ?_
    have := (h.r.row_lt hu e').2
    omega
/-- the last choice taken back -/
theorem ICv.pop {gC : Nat} {k : Nat} (h : ICv w0 w M v OA on oc os WA wk (some ⟨gC, 0, none⟩) (m + 1) mc FA fn fk left nodes spent first dn (ch ++ [k]) vs found) :
    ICv w0 (w.setCell ⟨w0.heap.size + 1, 7, none⟩ (.slice (some ⟨gC, 0, none⟩) m mc)) M v OA on oc os WA wk (some ⟨gC, 0, none⟩) m mc FA fn fk left nodes spent first dn ch vs found := by
  have hl : m = ch.length := by
    have := h.c.len
    simp [intsN] at this
    omega
  have hc : OI w M 2 (some ⟨gC, 0, none⟩) m mc (intsN ch) := by
    refine ⟨?_, fun z hz => h.c.all z (by unfold intsN at *; simp at *; exact .inl hz)⟩
    have := h.c.os.short (k := m) (by omega)
    rw [show (ints (intsN (ch ++ [k]))).take m = ints (intsN ch) by
      unfold ints intsN
      rw [List.map_append, List.map_append, List.take_append_of_le_length (by simp [hl]), List.take_of_length_le (by simp [hl])]] at this
    exact this
  exact h.push (World.grownBy.refl w _) hc (.inl rfl)
/-- a cover more -/
theorem ICv.more {u : Sl} {z : List Int} (h : ICv w0 w M v OA on oc os WA wk C m mc FA fn fk left nodes spent first dn ch vs found) (hg : w.grownBy w' (blk FA)) (hr : ORv w' M 32 2 FA' (fn + 1) fk' (vs ++ [u]) (found ++ [z]))
    (hC : blk u.1 = none ∨ blk u.1 ≠ blk C) :
    ICv w0 (w'.setCell ⟨w0.heap.size + 1, 9, none⟩ (.slice FA' (fn + 1) fk')) M v OA on oc os WA wk C m mc FA' (fn + 1) fk' left nodes spent first dn ch (vs ++ [u]) (found ++ [z]) := by
  have hM := h.M2
  have hlow : (⟨w0.heap.size + 1, 9, none⟩ : Addr).block < M := by show w0.heap.size + 1 < M; omega
  obtain ⟨g1, g2, g3, g4, g5⟩ := h.grow hg (fun k hk => h.r.os.lt hk)
  refine ⟨g1.set_ 9 _, g2.setCell (by show w0.heap.size ≤ w0.heap.size + 1; omega) _, h.o0, h.M2, by rw [size_setCell']; exact g3, g4.setFar (p := ⟨w0.heap.size + 1, 9, none⟩) (by simp [blk]) _, g5.mid (Mid.set (B := w0.heap.size + 1) (D := w0.heap.size + 2) (Nat.le_refl _) (Nat.lt_succ_self _) _) (.inl (Nat.le_refl _)),
    (h.c.kept hg (OS.typed h.c.os h.r.os (by decide))).setLow hlow _, hr.low hlow _, fun j y hy => ?_⟩
  rw [List.getElem?_append] at hy
  split at hy
  · exact h.rc j y hy
  · have := List.mem_of_getElem? hy
    rw [List.mem_singleton.1 this]; exact hC
end
/-- a slice's block is another's, or none, or one made since -/
def Fr (A' A : Option Addr) (n : Nat) : Prop := blk A' = blk A ∨ blk A' = none ∨ ∃ k, blk A' = some k ∧ n ≤ k
theorem Fr.refl (A : Option Addr) (n : Nat) : Fr A A n := .inl rfl
theorem Fr.of {A' A : Option Addr} {n : Nat} (h : blk A' = blk A ∨ ∃ k, blk A' = some k ∧ n ≤ k) : Fr A' A n := h.elim .inl fun h => .inr (.inr h)
theorem Fr.trans {A B C : Option Addr} {n m : Nat} (h : Fr B A n) (k : Fr C B m) (hm : n ≤ m) : Fr C A n := by
  rcases k with k | k | ⟨b, k, h1⟩
  · rcases h with h | h | ⟨b, h, h1⟩
    · exact .inl (k.trans h)
    · exact .inr (.inl (k.trans h))
    · exact .inr (.inr ⟨b, k.trans h, h1⟩)
  · exact .inr (.inl k)
  · exact .inr (.inr ⟨b, k, Nat.le_trans hm h1⟩)
theorem Fr.apart {A' A T : Option Addr} {n : Nat} (h : Fr A' A n) (ht : blk T = none ∨ blk T ≠ blk A) (hl : ∀ k, blk T = some k → k < n) : blk T = none ∨ blk T ≠ blk A' := by
  rcases h with h | h | ⟨b, h, h1⟩
  · rw [h]; exact ht
  · by_cases e : blk T = none
    · exact .inl e
    · exact .inr (by rw [h]; exact e)
  · refine .inr fun e => ?_
    rw [h] at e
    have := hl b e
    omega
/-- from M on, all blocks so far but those of the choices and of the covers are the same -/
structure Kc (M : Nat) (w w' : World) (C C' FA FA' : Option Addr) : Prop where
  size : w.heap.size ≤ w'.heap.size
  block : ∀ k, M ≤ k → k < w.heap.size → some k ≠ blk C → some k ≠ blk FA → w'.heap[k]? = w.heap[k]?
  fc : Fr C' C w.heap.size
  ff : Fr FA' FA w.heap.size
theorem Kc.of_below {M : Nat} {w w' : World} {C FA : Option Addr} (h : Below w.heap.size w w') : Kc M w w' C C FA FA := ⟨h.size, fun k _ hk _ _ => h.block k hk, .refl _ _, .refl _ _⟩
theorem Kc.trans {M : Nat} {w w' w'' : World} {C C' C'' FA FA' FA'' : Option Addr} (h : Kc M w w' C C' FA FA') (k : Kc M w' w'' C' C'' FA' FA'') : Kc M w w'' C C'' FA FA'' := by
  refine ⟨Nat.le_trans h.size k.size, fun b hM hb h1 h2 => ?_, h.fc.trans k.fc h.size, h.ff.trans k.ff h.size⟩
  rw [k.block b hM (Nat.lt_of_lt_of_le hb h.size) ?_ ?_]
  · exact h.block b hM hb h1 h2
  · have := h.fc.apart (T := some ⟨b, 0, none⟩) (.inr h1) (fun k hk => by have e : b = k := (by simpa [blk] using hk); omega)
    rcases this with e | e
    · cases e
    · exact e
  · have := h.ff.apart (T := some ⟨b, 0, none⟩) (.inr h2) (fun k hk => by have e : b = k := (by simpa [blk] using hk); omega)
    rcases this with e | e
    · cases e
    · exact e
theorem Kc.set {M : Nat} {w : World} {C FA : Option Addr} {p : Addr} (hp : p.block < M) (u : Value) : Kc M w (w.setCell p u) C C FA FA :=
  ⟨by rw [size_setCell']; exact Nat.le_refl _, fun k hM _ _ _ => Below.heap_setCell _ _ _ _ (by omega), .refl _ _, .refl _ _⟩
theorem Kc.grownC {M : Nat} {w w' : World} {C C' FA : Option Addr} (h : w.grownBy w' (blk C)) (hn : blk C' = blk C ∨ ∃ k, blk C' = some k ∧ w.heap.size ≤ k) : Kc M w w' C C' FA FA :=
  ⟨h.size, fun k _ hk h1 _ => h.block k hk h1, .of hn, .refl _ _⟩
theorem Kc.grownF {M : Nat} {w w' : World} {C FA FA' : Option Addr} (h : w.grownBy w' (blk FA)) (hn : blk FA' = blk FA ∨ ∃ k, blk FA' = some k ∧ w.heap.size ≤ k) : Kc M w w' C C FA FA' :=
  ⟨h.size, fun k _ hk _ h2 => h.block k hk h2, .refl _ _, .of hn⟩
/-- a list that lies apart from both is as it was -/
theorem OI.kc {M : Nat} {w w' : World} {C C' FA FA' : Option Addr} {T : Option Addr} {n c : Nat} {zs : List Int} {e : TypeId} (h : OI w M e T n c zs) (k : Kc M w w' C C' FA FA') (h1 : blk T = none ∨ blk T ≠ blk C) (h2 : blk T = none ∨ blk T ≠ blk FA) : OI w' M e T n c zs := by
  refine ⟨⟨h.os.1, ?_⟩, h.all⟩
  rcases h.os.2 with h3 | ⟨g, cap, cur, hv, h4, hg, r⟩
  · exact .inl h3
  · refine .inr ⟨g, cap, cur, hv, h4, ?_, r⟩
    injection hv with ha
    subst ha
    have hlt := (h.os.lt (show blk (some ⟨g, 0, none⟩) = some g from rfl)).2
    rw [k.block g h4 hlt (fun e => ne_of_none h1 (by rw [← e]; simp) (by rw [← e]; rfl)) (fun e => ne_of_none h2 (by rw [← e]; simp) (by rw [← e]; rfl))]
    exact hg
end Go.Proofs.Ytdcoppighkbofaa
/- Covers, the program's open, choices and mark. No condition beyond those stated. -/
namespace Go.Proofs.Ytdcoppighkbofaa
open Go.RowKit

theorem mem_row {v : Nat} {os : List (List Int)} (h : Cover (v : Int) os) {k : Nat} (hk : k < os.length) {x : Int} (hx : x ∈ row os k) : ∃ y : Nat, x = (y : Int) ∧ y < v := by
  obtain ⟨j, hj, rfl⟩ := List.mem_iff_getElem.1 hx
  have := row_in h hk hj
  rwa [nth_get hj] at this
section
variable {w0 w : World} {M v : Nat} {OA : Option Addr} {on oc : Nat} {os : List (List Int)} {WA : Option Addr} {wk : Nat} {C : Option Addr} {m mc : Nat} {FA : Option Addr} {fn fk : Nat} {left nodes : Int} {spent first : Bool} {dn : Nat → Bool} {ch : List Nat} {vs : List Sl} {found : List (List Int)}
set_option maxHeartbeats 1000000 in
theorem open_any (ch0 : List Nat) (h : ICv w0 w M v OA on oc os WA wk C m mc FA fn fk left nodes spent first (fun x => covB os ch0 (x : Nat)) ch vs found) (hC : Cover (v : Int) os) (k : Nat) (hk : k < on) :
    Calls Try.prog 60 #[.pointer (some ⟨w0.heap.size + 1, 0, none⟩), .int .i64 k] w (RetB w (openB os ch0 k)) := by
  have eg : ∀ (args : Array Value) (w : World), (callFunc 73 args).run Try.prog w = .ok (.enter 73 args) w := fun _ _ => by kernel_rfl
  obtain ⟨W1, hW1⟩ : ∃ W1, w.alloc (.cells #[.pointer (some ⟨w0.heap.size + 1, 0, none⟩)] 51) = W1 := ⟨_, rfl⟩
  have hb1 : Below w.heap.size w W1 := hW1 ▸ below_alloc w _
  have X : Blk W1 w.heap.size 51 #[.pointer (some ⟨w0.heap.size + 1, 0, none⟩)] := hW1 ▸ Blk.new w _ _
  have xp := X.cell 0
  have h1 := h.below hb1
  have hol := h.o0.len
  obtain ⟨a1, A1, n1, c1, rfl, co, hn1, hc1, hr1⟩ := h1.o.get hk
  obtain ⟨⟨-, -, -, y3⟩, -⟩ := h1.cells
  have hask : AskIm 73 #[.pointer (some ⟨w.heap.size, 0, none⟩)] (fun x => covB os ch0 x) (row os k) W1 := fun x W hW hx hI => by
    obtain ⟨y, rfl, hy⟩ := mem_row hC (by rw [hol]; exact hk) hx
    have hw := h1.below hW
    have zp := (X.after hW).cell 0
    obtain ⟨g', hg', cd, -⟩ := hw.d.cell (flags_at hy)
    cases hg'
    obtain ⟨-, -, -, z6, -⟩ := hw.cells
    clear hW hw h h1 hr1 hx hI
    go_enter Try.func73, Try.ntmps73
    go_wp2
    go_ret
    exact ⟨rfl, Below.refl _ _⟩
  have hcf := containsFuncIm _ _ eg (fun x => covB os ch0 x) A1 n1 c1 (row os k) W1 hr1 (by omega) hask
  have HO := Lib.hid (show (!(row os k).any fun x => covB os ch0 x) = openB os ch0 k from rfl)
  clear h h1 hask X
  go_enter Try.func60, Try.ntmps60
  go_wp2_with (go_at_call 72; refine hcf.mono ?_; rintro e w2 ⟨rfl, hb2⟩)
  go_ret
  exact ⟨by rw [← HO.out]; rfl, below_then hb1 hb2⟩
set_option maxHeartbeats 1000000 in
theorem markI_any (h : ICv w0 w M v OA on oc os WA wk C m mc FA fn fk left nodes spent first dn ch vs found) (hC : Cover (v : Int) os) (k : Nat) (hk : k < on) (b : Bool) :
    Calls Try.prog 51 #[.pointer (some ⟨w0.heap.size + 1, 0, none⟩), .int .i64 k, .bool b] w (fun e w' => e = .returned (.tuple #[]) ∧ ICv w0 w' M v OA on oc os WA wk C m mc FA fn fk left nodes spent first (fun x => if memB (row os k) (x : Nat) then b else dn x) ch vs found ∧ Kc M w w' C C FA FA) := by
  have hol := Lib.hid h.o0.len
  have HC := Lib.hid hC
  obtain ⟨a1, A1, n1, c1, rfl, co0, hn1, hc1, r0⟩ := h.o0.get hk
  have co := below_cell h.b co0
  have hl1 := Lib.hid r0.len
  obtain ⟨⟨-, -, -, y3⟩, -, -, y6, -⟩ := h.cells
  have hM2 := h.M2
  clear hC
  go_enter Try.func51, Try.ntmps51
  go_wp2
  go_loopw [17] (fun i wr => ∃ j : Nat, j ≤ n1 ∧ i = .int .i64 j ∧ ICv w0 wr M v (some a1) on oc os WA wk C m mc FA fn fk left nodes spent first (fun x => if memB ((row os k).take j) (x : Nat) then b else dn x) ch vs found ∧ Kc M w wr C C FA FA) (fun i _ => n1 - (intOf i).toNat)
  case atStart => exact ⟨0, Nat.zero_le _, rfl, by simpa [memB] using h, Kc.of_below (Below.refl _ _)⟩
  case round =>
    clear co y3 y6
    obtain ⟨j, hj, rfl, hr, hK⟩ := hrel
    obtain ⟨⟨-, -, -, y3⟩, -, -, y6, -⟩ := hr.cells
    by_cases hlt : j < n1
    · obtain ⟨y, hy, hyv⟩ := row_in HC.out (k := k) (by rw [hol.out]; exact hk) (j := j) (by rw [hl1.out]; exact hlt)
      obtain ⟨ad, rfl, cx, -⟩ := (r0.keep hr.b).get hlt
      rw [hy] at cx
      obtain ⟨gd, had, cd, cdf⟩ := hr.d.cell (flags_at hyv)
      cases had
      have HN := Lib.hid (hr.flag y b (dn' := fun x => if memB ((row os k).take (j + 1)) (x : Nat) then b else dn x) (fun x hx => by
        rw [memB_take (by rw [hl1.out]; exact hlt), hy]
        by_cases h1 : x = y
        · subst h1; simp
        · have h2 : (((y : Nat) : Int) == (x : Int)) = false := by simp; omega
          rw [h2, Bool.or_false, if_neg h1]))
      have HK := Lib.hid (hK.trans (Kc.set (p := ⟨w0.heap.size, y, none⟩) (by show w0.heap.size < M; omega) (.bool b)))
      clear hK hr
      generalize (if memB ((row os k).take j) (y : Nat) then b else dn y) = old at *
      go_wp2
      go_roundw
      case rel => exact ⟨j + 1, by omega, by go_num, HN.out, HK.out⟩
      case measure => simp [intOf]; omega
    · obtain rfl : j = n1 := by omega
      rw [List.take_of_length_le (by rw [hl1.out]; exact Nat.le_refl _)] at hr
      go_wp2
      go_end0
      exact ⟨rfl, hr, hK⟩
end
theorem cho_cov {os : List (List Int)} {ch : List Nat} {j : Nat} (h : covB os ch (j : Nat) = true) : choP os ch (j + 1) = choP os ch j ∧ (bestTo os ch (j + 1)).isSome = (bestTo os ch j).isSome := by
  unfold choP
  rw [show bestTo os ch (j + 1) = bestTo os ch j by rw [bestTo, if_pos h]]
  exact ⟨rfl, rfl⟩
theorem cho_take {os : List (List Int)} {ch : List Nat} {j : Nat} (h : covB os ch (j : Nat) = false) (h1 : (bestTo os ch j).isSome = false ∨ (optsAt os ch (j : Nat)).length < (choP os ch j).length) : choP os ch (j + 1) = optsAt os ch (j : Nat) ∧ (bestTo os ch (j + 1)).isSome = true := by
  have hb : bestTo os ch (j + 1) = some j := by
    rw [bestTo, if_neg (by rw [h]; simp)]
    unfold choP at h1
    cases hb : bestTo os ch j with
    | none => rfl
    | some i =>
      rw [hb] at h1
      simp only [Option.isSome_some, Bool.true_eq_false, false_or] at h1
      simp only
      rw [if_pos h1]
  unfold choP
  rw [hb]
  exact ⟨rfl, rfl⟩
theorem cho_keep {os : List (List Int)} {ch : List Nat} {j : Nat} (h : covB os ch (j : Nat) = false) (h1 : ¬ ((bestTo os ch j).isSome = false ∨ (optsAt os ch (j : Nat)).length < (choP os ch j).length)) : choP os ch (j + 1) = choP os ch j ∧ (bestTo os ch (j + 1)).isSome = (bestTo os ch j).isSome := by
  have hb : bestTo os ch (j + 1) = bestTo os ch j := by
    rw [bestTo, if_neg (by rw [h]; simp)]
    unfold choP at h1
    cases hb : bestTo os ch j with
    | none => rw [hb] at h1; simp at h1
    | some i =>
      rw [hb] at h1
      simp only [Option.isSome_some, Bool.true_eq_false, false_or] at h1
      simp only
      rw [if_neg h1]
  unfold choP
  rw [hb]
  exact ⟨rfl, rfl⟩
def openTo (os : List (List Int)) (ch : List Nat) (x : Int) (k : Nat) : List Nat := ((withP os x).take k).filter fun i => openB os ch i
theorem openTo_yes {os : List (List Int)} {ch : List Nat} {x : Int} {k q : Nat} (hk : (withP os x)[k]? = some q) (h : openB os ch q = true) : openTo os ch x (k + 1) = openTo os ch x k ++ [q] := by
  unfold openTo
  obtain ⟨hl, he⟩ := List.getElem?_eq_some_iff.1 hk
  rw [List.take_succ_eq_append_getElem hl, List.filter_append, he]
  simp [h]
theorem openTo_no {os : List (List Int)} {ch : List Nat} {x : Int} {k q : Nat} (hk : (withP os x)[k]? = some q) (h : openB os ch q = false) : openTo os ch x (k + 1) = openTo os ch x k := by
  unfold openTo
  obtain ⟨hl, he⟩ := List.getElem?_eq_some_iff.1 hk
  rw [List.take_succ_eq_append_getElem hl, List.filter_append, he]
  simp [h]
theorem openTo_all (os : List (List Int)) (ch : List Nat) (x : Int) : openTo os ch x (withP os x).length = optsAt os ch x := by
  unfold openTo optsAt
  rw [List.take_length]
theorem openTo_le (os : List (List Int)) (ch : List Nat) (x : Int) (k : Nat) : (openTo os ch x k).length ≤ k := Nat.le_trans (List.length_filter_le _ _) (by rw [List.length_take]; omega)
theorem intsN_len (l : List Nat) : (intsN l).length = l.length := by simp [intsN]
theorem intsN_nth {l : List Nat} {k q : Nat} (h : l[k]? = some q) : nth (intsN l) k = (q : Int) := by
  refine nth_eq ?_
  unfold intsN
  rw [List.getElem?_map, h]
  rfl
theorem intsN_snoc (l : List Nat) (q : Nat) : intsN (l ++ [q]) = intsN l ++ [(q : Int)] := by simp [intsN]
theorem withP_at {os : List (List Int)} {x : Int} {k : Nat} (h : k < (withP os x).length) : ∃ q, (withP os x)[k]? = some q ∧ q < os.length := by
  refine ⟨(withP os x)[k], List.getElem?_eq_getElem h, ?_⟩
  have := List.getElem_mem h
  unfold withP at this
  rw [List.mem_filter] at this
  exact List.mem_range.1 this.1
theorem opts_le (os : List (List Int)) (ch : List Nat) (x : Int) : (optsAt os ch x).length ≤ os.length := by rw [← cntTo_all]; exact cntTo_le _ _ _ _
theorem cho_le (os : List (List Int)) (ch : List Nat) (j : Nat) : (choP os ch j).length ≤ os.length := by
  unfold choP
  split
  · simp
  · exact opts_le _ _ _
theorem withP_le (os : List (List Int)) (x : Int) : (withP os x).length ≤ os.length := Nat.le_trans (List.length_filter_le _ _) (by simp)
set_option maxRecDepth 100000 in
set_option maxHeartbeats 4000000 in
theorem choices_any {w0 w : World} {M v : Nat} {OA : Option Addr} {on oc : Nat} {os : List (List Int)} {WA : Option Addr} {wk : Nat} {C : Option Addr} {m mc : Nat} {FA : Option Addr} {fn fk : Nat} {left nodes : Int} {spent first : Bool} {ch : List Nat} {vs : List Sl} {found : List (List Int)}
    (h : ICv w0 w M v OA on oc os WA wk C m mc FA fn fk left nodes spent first (fun x => covB os ch (x : Nat)) ch vs found) (hC : Cover (v : Int) os) :
    Calls Try.prog 50 #[.pointer (some ⟨w0.heap.size + 1, 0, none⟩)] w (RetI w 2 (intsN (choP os ch v))) := by
  have hol := h.o0.len
  have hon : on ≤ 256 := by have := hC.len; omega
  have hv : v ≤ 64 := by have := hC.v2; omega
  have HC := Lib.hid hC
  have HOL := Lib.hid hol
  have HCH := Lib.hid (fun j => show (choP os ch j).length ≤ on from hol ▸ cho_le os ch j)
  clear hC hol
  obtain ⟨-, -, -, y6, -⟩ := h.cells
  go_enter Try.func50, Try.ntmps50
  go_wp2
  go_loopw [3, 4, 15] (fun bs fd i wr => ∃ (j : Nat) (A : Option Addr) (n c : Nat), j ≤ v ∧ i = .int .i64 j ∧ bs = .slice A n c ∧ fd = .bool (bestTo os ch j).isSome ∧ OI wr w.heap.size 2 A n c (intsN (choP os ch j)) ∧ Below w.heap.size w wr) (fun _ _ i _ => v - (intOf i).toNat)
  case atStart => exact ⟨0, none, 0, 0, Nat.zero_le _, rfl, rfl, rfl, OI.nil_ _ _ _, Below.refl _ _⟩
  case round =>
    clear y6
    obtain ⟨j, A, n, c, hj, rfl, rfl, rfl, ho, hb⟩ := hrel
    have hr := h.below hb
    obtain ⟨-, y4, -, y6, -⟩ := hr.cells
    by_cases hlt : j < v
    · obtain ⟨g', hg', cd, -⟩ := hr.d.cell (flags_at hlt)
      cases hg'
      cases hcv : covB os ch (j : Nat) with
      | true =>
        rw [hcv] at cd
        obtain ⟨e1, e2⟩ := cho_cov hcv
        rw [← e1] at ho
        have E2 := Lib.hid e2
        clear e1 e2 hcv
        generalize (bestTo os ch j).isSome = bb at *
        go_wp2
        go_roundw
        case rel => exact ⟨j + 1, A, n, c, by omega, by go_num, rfl, by rw [E2.out], ho, hb⟩
        case measure => simp [intOf]; omega
      | false =>
        rw [hcv] at cd
        obtain ⟨a2, A2, n2, c2, rfl, cw, hn2, hc2, hrw⟩ := hr.wi.reads.get hlt
        rw [withL_row hlt] at hrw
        have hwl := hrw.len
        rw [intsN_len] at hwl
        have hn2b : n2 ≤ 256 := by have := withP_le os (j : Nat); have := HOL.out; omega
        have hbs := hb.size
        have HCV := Lib.hid hcv
        clear hcv
        obtain ⟨W0, rfl⟩ : ∃ W0, W0 = wr := ⟨_, rfl⟩
        go_wp2
        go_loopw [7, 29] (fun l i wi => ∃ (k : Nat) (L : Option Addr) (ln lc : Nat), k ≤ n2 ∧ i = .int .i64 k ∧ l = .slice L ln lc ∧ OI wi W0.heap.size 2 L ln lc (intsN (openTo os ch (j : Nat) k)) ∧ Below W0.heap.size W0 wi) (fun _ i _ => n2 - (intOf i).toNat)
        case atStart => exact ⟨0, none, 0, 0, Nat.zero_le _, rfl, rfl, OI.nil_ _ _ _, Below.refl _ _⟩
        case round =>
          clear y4 y6 cd cw
          obtain ⟨k, L, ln, lc, hk, rfl, rfl, hl, hbi⟩ := hrel
          have hri := hr.below hbi
          obtain ⟨-, y4, -, y6, -⟩ := hri.cells
          have hlen := hl.len
          rw [intsN_len] at hlen
          have hlb : ln ≤ k := by have := openTo_le os ch (j : Nat) k; omega
          by_cases hlk : k < n2
          · obtain ⟨q, hq, hqo⟩ := withP_at (os := os) (x := (j : Nat)) (k := k) (by omega)
            obtain ⟨a3, rfl, c3, -⟩ := (hrw.keep hbi).get hlk
            rw [intsN_nth hq] at c3
            have hqon : q < on := by have := HOL.out; omega
            have hop := open_any ch hri HC.out q hqon
            cases hoq : openB os ch q with
            | true =>
              rw [hoq] at hop
              have HN := Lib.hid (show intsN (openTo os ch (j : Nat) (k + 1)) = intsN (openTo os ch (j : Nat) k) ++ [(q : Int)] by rw [openTo_yes hq hoq, intsN_snoc])
              have hqi : I64 (q : Int) := by unfold I64; omega
              clear hoq hq hlen
              go_wp2_with fail
              refine hop.mono ?_
              rintro e w2 ⟨rfl, hb2⟩
              have hl2 := hl.below hb2
              have hbi2 := hbi.trans (hb2.mono hbi.size)
              have hsz2 : W0.heap.size ≤ w2.heap.size := hbi2.size
              clear hop hri
              go_wp2_with (at_builtin; refine app_int _ rfl (.tmp 36) (.tmp 38) rfl W0.heap.size L ln lc _ rfl hl2 (q : Int) w2.heap.size rfl rfl hqi (by omega) hsz2 ?_; intro A4 c4 w4 ho4 hg4 hf4)
              rw [← HN.out] at ho4
              have hb4 := below_own hbi2 hg4 hsz2 (fun k hk => (hl2.os.lt hk).1)
              go_roundw
              case rel => exact ⟨k + 1, A4, ln + 1, c4, by omega, by go_num, rfl, ho4, hb4⟩
              case measure => simp [intOf]; omega
            | false =>
              rw [hoq] at hop
              rw [← openTo_no hq hoq] at hl
              clear hoq hq hlen
              go_wp2_with fail
              refine hop.mono ?_
              rintro e w2 ⟨rfl, hb2⟩
              have hl2 := hl.below hb2
              have hbi2 := hbi.trans (hb2.mono hbi.size)
              clear hop hri
              go_wp2
              go_roundw
              case rel => exact ⟨k + 1, L, ln, lc, by omega, by go_num, rfl, hl2, hbi2⟩
              case measure => simp [intOf]; omega
          · obtain rfl : k = n2 := by omega
            rw [← hwl, openTo_all] at hl
            have hln : ln = (optsAt os ch (j : Nat)).length := by
              have := hl.len
              rw [intsN_len] at this
              exact this.symm
            have hn : n = (choP os ch j).length := by
              have := ho.len
              rw [intsN_len] at this
              exact this.symm
            have hnb := HCH.out j
            have hbw := hb.trans (hbi.mono hbs)
            have ho2 := ho.below hbi
            have hl2 := hl.more hbs
            by_cases hck : (bestTo os ch j).isSome = false ∨ ln < n
            · obtain ⟨e1, e2⟩ := cho_take HCV.out (by rw [← hln, ← hn]; exact hck)
              rw [← e1] at hl2
              have E2 := Lib.hid e2
              clear e1 e2 hl hlen hln
              clear hwl
              cases hbo : (bestTo os ch j).isSome with
              | false =>
                clear hck hn hnb
                go_wp2
                go_roundw
                case rel => exact ⟨j + 1, L, ln, lc, by omega, by go_num, rfl, by rw [E2.out], hl2, hbw⟩
                case measure => simp [intOf]; omega
              | true =>
                have hck2 : ln < n := by rw [hbo] at hck; simpa using hck
                clear hck hn
                go_wp2
                go_roundw
                case rel => exact ⟨j + 1, L, ln, lc, by omega, by go_num, rfl, by rw [E2.out], hl2, hbw⟩
                case measure => simp [intOf]; omega
            · obtain ⟨e1, e2⟩ := cho_keep HCV.out (by rw [← hln, ← hn]; exact hck)
              rw [← e1] at ho2
              have E2 := Lib.hid e2
              have hck1 : (bestTo os ch j).isSome = true := by
                cases hbo : (bestTo os ch j).isSome with
                | true => rfl
                | false => exact absurd (.inl hbo) hck
              have hck2 : ¬ ln < n := fun e => hck (.inr e)
              have EB := Lib.hid (show (bestTo os ch (j + 1)).isSome = true by rw [e2]; exact hck1)
              rw [hck1]
              clear e1 e2 hl hlen hln hck hck1 hn
              go_wp2
              go_roundw
              case rel => exact ⟨j + 1, A, n, c, by omega, by go_num, rfl, by rw [EB.out], ho2, hbw⟩
              case measure => simp [intOf]; omega
    · obtain rfl : j = v := by omega
      go_wp2
      go_ret
      exact ⟨_, _, _, rfl, ho, hb⟩
end Go.Proofs.Ytdcoppighkbofaa
/- Covers, the program's search, one node. No condition beyond those stated. -/
namespace Go.Proofs.Ytdcoppighkbofaa
open Go.RowKit

set_option maxHeartbeats 1000000 in
theorem nodeC_any (w : World) (pb : Nat) (l : Nat) (b : Bool) (h0 : w.cell? ⟨pb, 0, none⟩ = some (.int .i64 (l : Int))) (h1 : w.cell? ⟨pb, 1, none⟩ = some (.bool b)) (f0 : w.frozen? ⟨pb, 0, none⟩ = false) (f1 : w.frozen? ⟨pb, 1, none⟩ = false) (hl : l ≤ 1048576) :
    Calls Try.prog 46 #[.pointer (some ⟨pb, 0, none⟩)] w (fun e w' => e = .returned (.bool (decide (l ≠ 0))) ∧ w' = if l = 0 then w.setCell ⟨pb, 1, none⟩ (.bool true) else w.setCell ⟨pb, 0, none⟩ (.int .i64 ((l : Int) - 1))) := by
  by_cases h : l = 0
  · subst h
    go_enter Try.func46, Try.ntmps46
    go_wp2
    go_ret
    exact ⟨rfl, rfl⟩
  · have h' : ((l : Int) == 0) = false := by simp; omega
    have hd : decide (l ≠ 0) = true := by simp [h]
    rw [hd, if_neg h]
    clear h hd
    go_enter Try.func46, Try.ntmps46
    go_wp2
    go_ret
    exact ⟨rfl, rfl⟩
def SIc (w0 w : World) (M v : Nat) (OA : Option Addr) (on oc : Nat) (os : List (List Int)) (WA : Option Addr) (wk : Nat) (first : Bool) (budget : Int) (s : Cst) (ch : List Nat) (C FA : Option Addr) : Prop :=
  ∃ m mc fn fk vs, ICv w0 w M v OA on oc os WA wk C m mc FA fn fk (s.left : Nat) (budget - s.left) s.spent first (fun x => covB os ch (x : Nat)) ch vs s.found
def RetJ (w0 w : World) (M v : Nat) (OA : Option Addr) (on oc : Nat) (os : List (List Int)) (WA : Option Addr) (wk : Nat) (first : Bool) (budget : Int) (s : Cst) (ch : List Nat) (C FA : Option Addr) (e : Ending) (w' : World) : Prop :=
  e = .returned (.tuple #[]) ∧ ∃ C' FA', SIc w0 w' M v OA on oc os WA wk first budget s ch C' FA' ∧ Kc M w w' C C' FA FA'
theorem mark_covI (os : List (List Int)) (ch : List Nat) (k : Nat) : (fun x : Nat => if memB (row os k) (x : Nat) then true else covB os ch (x : Nat)) = fun x : Nat => covB os (ch ++ [k]) (x : Nat) := by
  have := mark_cov os ch k
  simpa using this
theorem unmark_covI {os : List (List Int)} {ch : List Nat} {k : Nat} (ho : openB os ch k = true) : (fun x : Nat => if memB (row os k) (x : Nat) then false else covB os (ch ++ [k]) (x : Nat)) = fun x : Nat => covB os ch (x : Nat) := by
  have := unmark_cov ho
  simpa using this
theorem cov_all (os : List (List Int)) (ch : List Nat) (v : Nat) : tB (∃ x, x < v ∧ covB os ch (x : Nat) = false) = (bestTo os ch v).isSome := by
  cases h : bestTo os ch v with
  | none =>
    refine tB_no fun ⟨x, h1, h2⟩ => ?_
    rw [best_none.1 h x h1] at h2
    cases h2
  | some i =>
    refine tB_yes ?_
    refine Classical.byContradiction fun hn => ?_
    have : bestTo os ch v = none := best_none.2 fun x hx => by
      cases hc : covB os ch (x : Nat) with
      | true => rfl
      | false => exact absurd ⟨x, hx, hc⟩ hn
    rw [h] at this
    cases this
theorem cho_at {os : List (List Int)} {ch : List Nat} {v k : Nat} (h : k < (choP os ch v).length) : ∃ q, (choP os ch v)[k]? = some q ∧ q < os.length ∧ openB os ch q = true ∧ ∃ x : Int, x ∈ row os q := by
  refine ⟨(choP os ch v)[k], List.getElem?_eq_getElem h, ?_⟩
  have hm := List.getElem_mem h
  generalize (choP os ch v)[k] = q at *
  unfold choP at hm
  split at hm
  · simp at hm
  · obtain ⟨h1, h2, h3⟩ := mem_optsAt.1 hm
    exact ⟨h1, h3, _, h2⟩
set_option maxRecDepth 100000 in
set_option maxHeartbeats 4000000 in
theorem searchI_stop (w0 w : World) (M v : Nat) (OA : Option Addr) (on oc : Nat) (os : List (List Int)) (WA : Option Addr) (wk : Nat) (first : Bool) (budget : Int) (s : Cst) (ch : List Nat) (C FA : Option Addr)
    (hS : SIc w0 w M v OA on oc os WA wk first budget s ch C FA) (hst : stopC first s = true) :
    Calls Try.prog 35 #[.pointer (some ⟨w0.heap.size + 1, 0, none⟩)] w (RetJ w0 w M v OA on oc os WA wk first budget s ch C FA) := by
  obtain ⟨m, mc, fn, fk, vs, h⟩ := hS
  obtain ⟨⟨y0, y1, -, -⟩, -, y5, -, -, -, y9⟩ := h.cells
  have hfn := h.r.slen
  have H := Lib.hid h
  clear h
  cases hsp : s.spent with
  | true =>
    rw [hsp] at y1
    clear hst hfn
    go_enter Try.func35, Try.ntmps35
    go_wp2
    refine bodyPost_ret (results_none rfl _ _ _) rfl ?_
    exact ⟨rfl, C, FA, ⟨_, _, _, _, _, H.out⟩, Kc.of_below (Below.refl _ _)⟩
  | false =>
    rw [hsp] at y1
    have hff : first = true ∧ 0 < fn := by
      unfold stopC at hst
      rw [hsp] at hst
      simp at hst
      refine ⟨hst.1, ?_⟩
      rw [← hfn]
      exact List.length_pos_iff.2 hst.2
    obtain ⟨rfl, hpos⟩ := hff
    clear hst hfn
    go_enter Try.func35, Try.ntmps35
    go_wp2
    refine bodyPost_ret (results_none rfl _ _ _) rfl ?_
    exact ⟨rfl, C, FA, ⟨_, _, _, _, _, H.out⟩, Kc.of_below (Below.refl _ _)⟩
end Go.Proofs.Ytdcoppighkbofaa
