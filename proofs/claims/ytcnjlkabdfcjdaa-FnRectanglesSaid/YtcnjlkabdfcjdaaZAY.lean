/- Squares laid over one another; the columns of a symbol. No condition beyond those stated. -/
import Derived.Test.YtcnjlkabdfcjdaaZAW
import Derived.Test.YtcnjlkabdfcjdaaZAX
import Derived.Test.YtcnjlkabdfcjdaaZAK
import Derived.Test.YtcnjlkabdfcjdaaZAI
import Derived.Test.YtcnjlkabdfcjdaaZAB
set_option linter.unusedVariables false
set_option linter.unusedSimpArgs false
namespace Go.Proofs.Ytcnjlkabdfcjdaa
open Go.RowKit

/-- where a number first stands -/
def posL (z : List Int) (s : Int) : Nat := z.findIdx fun u => u == s
theorem posL_at {z : List Int} {s : Int} (h : s ∈ z) : posL z s < z.length ∧ nth z (posL z s) = s ∧ ∀ i, i < posL z s → nth z i ≠ s := by
  have h1 : posL z s < z.length := List.findIdx_lt_length_of_exists ⟨s, h, by simp⟩
  refine ⟨h1, ?_, fun i hi e => ?_⟩
  · have := List.findIdx_getElem (p := fun u => u == s) (xs := z) (w := h1)
    rw [nth_get h1]
    unfold posL
    simpa using this
  · have := List.not_of_lt_findIdx (p := fun u => u == s) (xs := z) hi
    rw [nth_get (by omega)] at e
    simp [e] at this
set_option maxHeartbeats 400000 in
theorem indexI_pos (A : Option Addr) (n c : Nat) (zs : List Int) (x : Int) (w : World) (ha : RI w A n zs) (hn : n ≤ 9223372036854775807) (hx : x ∈ zs) :
    Calls Try.prog 85 #[.slice A n c, .int .i64 x] w fun e w' => e = .returned (.int .i64 (posL zs x)) ∧ w = w' := by
  obtain ⟨p1, p2, p3⟩ := posL_at hx
  have hla := Lib.hid ha.len
  have P3 := Lib.hid p3
  rw [ha.len] at p1
  clear p3 hx
  generalize posL zs x = q at *
  go_enter Try.func85, Try.ntmps85
  go_wp2
  go_loopw [5, 8] (fun _ i wr => ∃ k : Nat, k ≤ q ∧ i = .int .i64 k ∧ w = wr) (fun _ i _ => n - (intOf i).toNat)
  case atStart => exact ⟨0, Nat.zero_le _, rfl, by trivial⟩
  case round =>
    obtain ⟨k, hk, rfl, rfl⟩ := hrel
    obtain ⟨a, rfl, hca, hia⟩ := ha.get (show k < n by omega)
    by_cases hq : k = q
    · subst hq
      rw [p2] at hca
      clear hia
      go_wp2
      go_ret
      exact ⟨rfl, rfl⟩
    · have hqb : (x == nth zs k) = false := by simp; exact fun e => P3.out k (by omega) e.symm
      have hkq : k < q := by omega
      clear hq
      generalize nth zs k = q' at *
      go_wp2
      go_roundw
      case rel => exact ⟨k + 1, by omega, by go_num, by trivial⟩
      case measure => simp [intOf]; omega
/-- the columns of a symbol, row by row -/
def colsP (b : List (List Int)) (s : Int) (k : Nat) : List Int := (List.range k).map fun x => ((posL (row b x) s : Nat) : Int)
theorem colsP_step (b : List (List Int)) (s : Int) (k : Nat) : colsP b s (k + 1) = colsP b s k ++ [((posL (row b k) s : Nat) : Int)] := by simp [colsP, List.range_succ]
theorem colsP_len (b : List (List Int)) (s : Int) (k : Nat) : (colsP b s k).length = k := by simp [colsP]
theorem colsP_nth {b : List (List Int)} {s : Int} {x k : Nat} (h : x < k) : nth (colsP b s k) x = ((posL (row b x) s : Nat) : Int) := by
  rw [nth_get (by rw [colsP_len]; exact h)]; simp [colsP]
/-- in a square each symbol stands in each row -/
theorem sq_has {b : List (List Int)} (h : Square b) {n : Nat} (hl : b.length = n) {x k : Nat} (hx : x < n) (hk : k < n) : ((k : Nat) : Int) ∈ row b x := by
  obtain ⟨h1, h2⟩ := h.2.2.1 x (by omega)
  have hrow : (row b x).length = n := by rw [h1, hl]
  have hi := (perm_iff (row b x)).1 h2
  have hm : ((k : Nat) : Int) ∈ srt (row b x) := by
    have := hi k (by rw [hrow]; exact hk)
    rw [← this, nth_get (by rw [srt_len, hrow]; exact hk)]
    exact List.getElem_mem _
  exact (srt_perm (row b x)).mem_iff.1 hm
set_option maxRecDepth 100000 in
set_option maxHeartbeats 2000000 in
theorem symbolColumns_any (A : Option Addr) (n c k : Nat) (b : List (List Int)) (w : World) (ha : RR w A n b) (hq : Square b) (hk : k < n) :
    Calls Try.prog 63 #[.slice A n c, .int .i64 k] w fun e w' => ∃ LA lc, e = .returned (.tuple #[.slice LA n lc, .int .i64 0]) ∧ OI w' w.heap.size 2 LA n lc (colsP b (k : Int) n) ∧ Below w.heap.size w w' := by
  have hl := ha.len
  have hn10 : n ≤ 10 := by have := hq.2.1; omega
  have hcl : cells b ≤ 1099511627776 := by
    have := cells_under (l := b) (k := n) (fun r hr => by
      obtain ⟨i, hi, rfl⟩ := List.getElem_of_mem hr
      have := (hq.2.2.1 i hi).1
      rw [row_get hi] at this
      omega)
    have h2 := Nat.mul_le_mul hn10 hn10
    rw [hl] at this
    omega
  have hval := validSquare_any A n c b w ha (by omega) hcl
  rw [tB_yes hq] at hval
  have hin : inB (k : Int) 0 ((n : Int) - 1) = true := inB_mk (by omega)
  have hw : IntKind.i64.wrap ((n : Int) - 1) = (n : Int) - 1 := by rw [IntKind.wrap_i64]; omega
  have HS := Lib.hid (fun x (hx : x < n) => sq_has hq hl hx hk)
  have HL := Lib.hid (fun x (hx : x < n) => (show (row b x).length = n by rw [(hq.2.2.1 x (by omega)).1, hl]))
  clear hq hcl hl
  go_enter Try.func63, Try.ntmps63
  go_wp2_with (first | (go_at_call 18; refine hval.mono ?_; rintro e w2 ⟨rfl, hb2⟩) | (go_at_call 48; refine (sizeR_any _ _ _ _ (by omega)).mono ?_; rintro e w3 ⟨rfl, rfl⟩) | (go_at_call 36; refine (within_any _ _ _ _).mono ?_; rintro e w3 ⟨rfl, rfl⟩; rw [hin]))
  go_loopw [6, 8, 20] (fun l _ i wr => ∃ (x : Nat) (LA : Option Addr) (lc : Nat), x ≤ n ∧ i = .int .i64 x ∧ l = .slice LA x lc ∧ OI wr w.heap.size 2 LA x lc (colsP b (k : Int) x) ∧ Below w.heap.size w wr) (fun _ _ i _ => n - (intOf i).toNat)
  case atStart => exact ⟨0, none, 0, Nat.zero_le _, rfl, rfl, OI.nil_ _ _ _, hb2⟩
  case round =>
    clear hb2 hval
    obtain ⟨x, LA, lc, hx, rfl, rfl, ho, hb⟩ := hrel
    by_cases hlt : x < n
    · obtain ⟨ad, RX, rn, rc, rfl, hcx, hrn, hrc, hRX⟩ := (ha.keep hb).get hlt
      have hrl := hRX.len
      obtain rfl : rn = n := by rw [← hrl]; exact HL.out x hlt
      have hpos := posL_at (HS.out x hlt)
      have hix := indexI_pos RX rn rc (row b x) (k : Int) wr hRX (by omega) (HS.out x hlt)
      have HO := Lib.hid ho
      have HST := Lib.hid (colsP_step b (k : Int) x)
      have hp1 := hpos.1
      rw [hrl] at hp1
      have h64 : I64 ((posL (row b x) (k : Int) : Nat) : Int) := by unfold I64; omega
      have hbs := hb.size
      clear ho hpos
      generalize posL (row b x) (k : Int) = q at *
      go_wp2_with (first | (go_at_call 85; refine hix.mono ?_; rintro e w4 ⟨rfl, rfl⟩) | (at_builtin; refine app_int _ rfl (.tmp 24) (.tmp 28) rfl w.heap.size LA x lc _ rfl HO.out (q : Int) wr.heap.size rfl rfl h64 (by omega) (by omega) ?_; intro A5 c5 w5 ho5 hg5 hf5; have hb5 := Lib.hid (below_own hb hg5 (by omega) (fun b hb => (HO.out.os.lt hb).1)); rw [← HST.out] at ho5))
      go_roundw
      case rel => exact ⟨x + 1, A5, c5, by omega, by go_num, rfl, ho5, hb5.out⟩
      case measure => simp [intOf]; omega
    · obtain rfl : x = n := by omega
      go_wp2
      go_ret2
      exact ⟨LA, lc, rfl, ho, hb⟩
end Go.Proofs.Ytcnjlkabdfcjdaa
/- Whether squares are orthogonal; the transversals of a mate. No condition beyond those stated. -/
namespace Go.Proofs.Ytcnjlkabdfcjdaa
open Go.RowKit

/-- pairs of symbols as numbers -/
def pairF (n : Nat) (a b : List (List Int)) (x y : Nat) : Int := (n : Int) * atS a x y + atS b x y
structure PairOk (n : Nat) (a b : List (List Int)) : Prop where
  bd : ∀ x y, x < n → y < n → ∃ v : Nat, pairF n a b x y = (v : Int) ∧ v < n * n
  inj : ∀ x y z u, x < n → y < n → z < n → u < n → pairF n a b x y = pairF n a b z u → x = z ∧ y = u
theorem sq_cellb {a : List (List Int)} (h : Square a) {n : Nat} (hl : a.length = n) {x y : Nat} (hx : x < n) (hy : y < n) : (row a x).length = n ∧ ∃ s : Nat, atS a x y = (s : Int) ∧ s < n := by
  obtain ⟨h1, h2⟩ := h.2.2.1 x (by omega)
  have hb := h2.bd y (by rw [h1]; omega)
  rw [h1, hl] at hb
  exact ⟨by rw [h1, hl], (nth (row a x) y).toNat, by unfold atS; omega, by omega⟩
theorem mate_square {n : Nat} {a P : List (List Int)} (hD : MtD n a P) (h1 : 1 ≤ n) (h2 : n ≤ 10) : Square P := full_square hD.sq hD.full h1 h2
theorem mate_pairs {n : Nat} {a P : List (List Int)} (ha : Square a) (hl : a.length = n) (hD : MtD n a P) (h1 : 1 ≤ n) (h2 : n ≤ 10) : PairOk n a P := by
  have hP := mate_square hD h1 h2
  have hpl := hD.sq.len
  refine ⟨fun x y hx hy => ?_, fun x y z u hx hy hz hu e => ?_⟩
  · obtain ⟨-, s, hs, hsn⟩ := sq_cellb ha hl hx hy
    obtain ⟨-, t, ht, htn⟩ := sq_cellb hP hpl hx hy
    refine ⟨n * s + t, by unfold pairF; rw [hs, ht]; push_cast; rfl, ?_⟩
    have : n * (s + 1) ≤ n * n := Nat.mul_le_mul_left n hsn
    rw [Nat.mul_succ] at this
    omega
  · obtain ⟨-, s, hs, hsn⟩ := sq_cellb ha hl hx hy
    obtain ⟨-, t, ht, htn⟩ := sq_cellb hP hpl hx hy
    obtain ⟨-, s', hs', hsn'⟩ := sq_cellb ha hl hz hu
    obtain ⟨-, t', ht', htn'⟩ := sq_cellb hP hpl hz hu
    unfold pairF at e
    rw [hs, ht, hs', ht'] at e
    have e2 : n * s + t = n * s' + t' := by
      have : ((n * s + t : Nat) : Int) = ((n * s' + t' : Nat) : Int) := by push_cast; exact e
      omega
    have es : s = s' := by
      have h3 : (n * s + t) / n = s := by rw [Nat.mul_add_div (by omega), Nat.div_eq_of_lt htn, Nat.add_zero]
      have h4 : (n * s' + t') / n = s' := by rw [Nat.mul_add_div (by omega), Nat.div_eq_of_lt htn', Nat.add_zero]
      rw [← h3, ← h4, e2]
    subst es
    have et : t = t' := by omega
    subst et
    have hne : ∀ i j, i < n → j < n → atS P i j ≠ -1 := hD.full
    have eP : atS P x y = atS P z u := by rw [ht, ht']
    have ea : atS a x y = atS a z u := by rw [hs, hs']
    rcases Nat.lt_trichotomy x z with h | h | h
    · exact absurd ea (hD.sd x z y u h hz hy hu eP)
    · subst h
      refine ⟨rfl, ?_⟩
      rcases Nat.lt_trichotomy y u with h | h | h
      · exact absurd eP (hD.sq.rd x y u hx h hu (hne x y hx hy))
      · exact h
      · exact absurd eP.symm (hD.sq.rd x u y hx h hy (hne x u hx hu))
    · exact absurd ea.symm (hD.sd z x u y h hx hu hy eP.symm)
/-- the cells of a symbol of a mate are a transversal -/
theorem mate_trans {n k : Nat} {a P : List (List Int)} (ha : Square a) (hl : a.length = n) (hD : MtD n a P) (h1 : 1 ≤ n) (h2 : n ≤ 10) (hk : k < n) : TransOk a (colsP P (k : Int) n) := by
  have hP := mate_square hD h1 h2
  have hpl := hD.sq.len
  have hat : ∀ x, x < n → ∃ j, j < n ∧ nth (colsP P (k : Int) n) x = (j : Int) ∧ atS P x j = (k : Int) := fun x hx => by
    obtain ⟨p1, p2, -⟩ := posL_at (sq_has hP hpl hx hk)
    rw [(sq_cellb hP hpl hx hx).1] at p1
    exact ⟨_, p1, colsP_nth hx, p2⟩
  refine (trans_iff ha _).2 ⟨⟨by rw [colsP_len, hl]; exact Nat.le_refl _, fun i hi => ?_, fun i j hij hj => ?_, fun i j hij hj => ?_⟩, by rw [colsP_len, hl]⟩
  · rw [colsP_len] at hi
    obtain ⟨j, hj, e, -⟩ := hat i hi
    rw [e, hl]
    omega
  · rw [colsP_len] at hj
    obtain ⟨y, hy, e1, f1⟩ := hat i (by omega)
    obtain ⟨z, hz, e2, f2⟩ := hat j hj
    rw [e1, e2]
    intro e
    have : y = z := by omega
    subst this
    exact hD.sq.cd i j y hij hj hy (hD.full i y (by omega) hy) (by rw [f1, f2])
  · rw [colsP_len] at hj
    obtain ⟨y, hy, e1, f1⟩ := hat i (by omega)
    obtain ⟨z, hz, e2, f2⟩ := hat j hj
    rw [e1, e2, Int.toNat_natCast, Int.toNat_natCast]
    exact hD.sd i j y z hij hj hy hz (by rw [f1, f2])
set_option maxRecDepth 100000 in
set_option maxHeartbeats 2000000 in
theorem superpose1_any (A : Option Addr) (n c : Nat) (a : List (List Int)) (B : Option Addr) (d : Nat) (b : List (List Int)) (pn pa pb : Addr) (w : World) (hpn : w.cell? pn = some (.int .i64 (n : Int))) (hpa : w.cell? pa = some (.slice A n c)) (hpb : w.cell? pb = some (.slice B n d)) (ha : RR w A n a) (hb : RR w B n b)
    (x y s t : Nat) (hx : x < n) (hn : n ≤ 10) (hs : atS a x y = (s : Int)) (ht : atS b x y = (t : Int)) (hs1 : s < n) (ht1 : t < n) (hra : y < (row a x).length) (hrb : y < (row b x).length) :
    Calls Try.prog 108 #[.int .i64 x, .int .i64 y, .pointer (some pn), .pointer (some pa), .pointer (some pb)] w fun e w' => e = .returned (.int .i64 (pairF n a b x y)) ∧ Below w.heap.size w w' := by
  obtain ⟨ad, RX, rn, rc, rfl, hcx, hrn, hrc, hRX⟩ := ha.get hx
  obtain ⟨bd, RY, sn, sc, rfl, hcy, hsn, hsc, hRY⟩ := hb.get hx
  obtain ⟨ax, rfl, hcz, -⟩ := hRX.get (show y < rn by rw [← hRX.len]; exact hra)
  obtain ⟨ay, rfl, hcu, -⟩ := hRY.get (show y < sn by rw [← hRY.len]; exact hrb)
  have hyr : y < rn := by rw [← hRX.len]; exact hra
  have hys : y < sn := by rw [← hRY.len]; exact hrb
  have es : nth (row a x) y = (s : Int) := hs
  have et : nth (row b x) y = (t : Int) := ht
  rw [es] at hcz
  rw [et] at hcu
  have H := Lib.hid (show (n : Int) * (s : Int) + (t : Int) = pairF n a b x y by unfold pairF; rw [hs, ht])
  have hns : n * s ≤ 10 * 10 := Nat.mul_le_mul hn (by omega)
  obtain ⟨q, hq⟩ : ∃ q, n * s = q := ⟨_, rfl⟩
  have e1 : (n : Int) * (s : Int) = (q : Int) := by rw [← hq]; push_cast; rfl
  rw [e1] at H
  have hw1 : IntKind.i64.wrap ((n : Int) * (s : Int)) = (q : Int) := by rw [e1, IntKind.wrap_i64]; omega
  rw [hq] at hns
  clear e1 hq es et hs ht hra hrb
  go_enter Try.func108, Try.ntmps108
  go_wp2
  go_quiet (fail)
  go_wp2
  go_ret
  exact ⟨by rw [← H.out]; rfl, below_drewn _ _⟩
set_option maxRecDepth 100000 in
set_option maxHeartbeats 2000000 in
theorem superpose_any (A : Option Addr) (n c : Nat) (a : List (List Int)) (B : Option Addr) (d : Nat) (b : List (List Int)) (w : World) (ha : RR w A n a) (hb : RR w B n b) (hqa : Square a) (hqb : Square b) :
    Calls Try.prog 89 #[.slice A n c, .slice B n d] w fun e w' => ∃ R rc, e = .returned (.slice R n rc) ∧ OR w' w.heap.size 30 2 R n rc (fillS (pairF n a b) n n) ∧ Below w.heap.size w w' := by
  have hal := ha.len
  have hbl := hb.len
  have hn10 : n ≤ 10 := by have := hqa.2.1; omega
  have hn1 : 1 ≤ n := by have := hqa.1; omega
  have eg : ∀ (args : Array Value) (w : World), (callFunc 108 args).run Try.prog w = .ok (.enter 108 args) w := fun _ _ => by kernel_rfl
  have hb1 := below_alloc w (.cells #[.slice A n c] 24)
  have X1 := (Blk.new w 24 #[.slice A n c]).cell 0
  have s1 : (w.alloc (.cells #[.slice A n c] 24)).heap.size = w.heap.size + 1 := by simp
  have hb2 := below_alloc (w.alloc (.cells #[.slice A n c] 24)) (.cells #[.slice B n d] 24)
  have X2 := (Blk.new (w.alloc (.cells #[.slice A n c] 24)) 24 #[.slice B n d]).cell 0
  rw [s1] at X2
  go_enter Try.func89, Try.ntmps89
  go_wp2_with (fail)
  refine (sizeR_any A n c _ (by omega)).mono ?_
  rintro e w' ⟨rfl, rfl⟩
  have s2 : ((w.alloc (.cells #[.slice A n c] 24)).alloc (.cells #[.slice B n d] 24)).heap.size = w.heap.size + 2 := by simp
  have hb12 := below_then hb1 hb2
  have X1 := below_cell hb2 X1
  generalize (w.alloc (.cells #[.slice A n c] 24)).alloc (.cells #[.slice B n d] 24) = w2 at *
  clear hb1 hb2 s1
  have hb3 := below_alloc w2 (.cells #[.int .i64 (n : Int)] 2)
  have X3 := (Blk.new w2 2 #[.int .i64 (n : Int)]).cell 0
  have z3 := (Blk.new w2 2 #[.int .i64 (n : Int)]).frozen 0
  have X1 := below_cell hb3 X1
  have X2 := below_cell hb3 X2
  have ha3 := (ha.keep hb12).keep hb3
  have hb3' := (hb.keep hb12).keep hb3
  have hb13 := below_then hb12 hb3
  have hask : AskS 108 #[.pointer (some ⟨w2.heap.size, 0, none⟩), .pointer (some ⟨w.heap.size, 0, none⟩), .pointer (some ⟨w.heap.size + 1, 0, none⟩)] (pairF n a b) n (w2.alloc (.cells #[.int .i64 (n : Int)] 2)) := fun x y W hW hx hy => by
    obtain ⟨r1, s, hs, hs1⟩ := sq_cellb hqa hal hx hy
    obtain ⟨r2, t, ht, ht1⟩ := sq_cellb hqb hbl hx hy
    exact superpose1_any A n c a B d b _ _ _ W (below_cell hW X3) (below_cell hW X1) (below_cell hW X2) (ha3.keep hW) (hb3'.keep hW) x y s t hx hn10 hs ht hs1 ht1 (by omega) (by omega)
  have h64 : ∀ x y, x < n → y < n → I64 (pairF n a b x y) := fun x y hx hy => by
    obtain ⟨r1, s, hs, hs1⟩ := sq_cellb hqa hal hx hy
    obtain ⟨r2, t, ht, ht1⟩ := sq_cellb hqb hbl hx hy
    have h1 : n * s ≤ 10 * 10 := Nat.mul_le_mul hn10 (by omega)
    have e1 : ((n * s : Nat) : Int) = (n : Int) * (s : Int) := by push_cast; rfl
    unfold pairF I64
    rw [hs, ht, ← e1]
    omega
  have hfs := filledSquare_any 108 _ eg (pairF n a b) n _ (by omega) h64 hask
  have HBW := Lib.hid hb13
  have hsz : w.heap.size ≤ (w2.alloc (.cells #[.int .i64 (n : Int)] 2)).heap.size := hb13.size
  clear hask h64 hb13 hb12 hb3 ha3 hb3' X1 X2 ha hb hqa hqb hal hbl s2
  go_wp2_with (fail)
  refine hfs.mono ?_
  rintro e w4 ⟨R, rc, rfl, ho, hb4⟩
  have hor := Lib.hid (ho.more hsz)
  have hbw := Lib.hid (below_then HBW.out hb4)
  clear ho hb4 hfs
  go_wp2
  go_ret
  exact ⟨R, rc, rfl, hor.out, hbw.out⟩
end Go.Proofs.Ytcnjlkabdfcjdaa
/- Plain words for memory: a table of truth values that a call owns, its rows in blocks of their own. No condition beyond those stated. -/
namespace Go.Proofs.Ytcnjlkabdfcjdaa
open Go.RowKit

/-- m truth values -/
def bools (m : Nat) (f : Nat → Bool) : List Value := (List.range m).map fun (b : Nat) => .bool (f b)
theorem bools_len (m : Nat) (f : Nat → Bool) : (bools m f).length = m := by simp [bools]
theorem bools_at {m : Nat} {f : Nat → Bool} {b : Nat} (h : b < m) : (bools m f)[b]? = some (.bool (f b)) := by simp [bools, h]
theorem bools_set {m : Nat} {f : Nat → Bool} {b : Nat} {x : Bool} : (bools m f).set b (.bool x) = bools m fun c => if c = b then x else f c := by
  apply List.ext_getElem?
  intro c
  rw [List.getElem?_set]
  by_cases hc : c < m
  · by_cases e : b = c
    · subst e
      rw [if_pos rfl, if_pos (by rw [bools_len]; exact hc), bools_at hc, if_pos rfl]
    · rw [if_neg e, bools_at hc, bools_at hc, if_neg (fun e' => e e'.symm)]
  · rw [List.getElem?_eq_none (l := bools m fun c => if c = b then x else f c) (by rw [bools_len]; omega), List.getElem?_eq_none (l := bools m f) (by rw [bools_len]; omega)]
    split
    · rw [if_neg (by rw [bools_len]; omega)]
    · rfl
theorem bools_false (m : Nat) : List.replicate m (Value.bool false) = bools m fun _ => false := by
  apply List.ext_getElem?
  intro c
  by_cases hc : c < m
  · rw [bools_at hc, List.getElem?_replicate, if_pos hc]
  · rw [List.getElem?_eq_none (by simp; omega), List.getElem?_eq_none (by rw [bools_len]; omega)]
theorem bools_congr {m : Nat} {f g : Nat → Bool} (h : ∀ b, b < m → f b = g b) : bools m f = bools m g := by
  unfold bools
  exact List.map_congr_left fun b hb => by rw [h b (by simpa using hb)]
structure TBv (w : World) (B : Nat) (eo eb : TypeId) (A : Option Addr) (n c : Nat) (vs : List Sl) (m : Nat) (f : Nat → Nat → Bool) : Prop where
  os : OS w B eo 1 A n c (vs.map slv)
  rows : ∀ (j : Nat) (v : Sl), vs[j]? = some v → v.2.1 = m ∧ OS w B eb 1 v.1 v.2.1 v.2.2 (bools m (f j))
  sep : ∀ (i j : Nat) (v u : Sl), i ≠ j → vs[i]? = some v → vs[j]? = some u → apart v u
  ne : eo ≠ eb
def TB (w : World) (B : Nat) (eo eb : TypeId) (A : Option Addr) (n c m : Nat) (f : Nat → Nat → Bool) : Prop := ∃ vs, TBv w B eo eb A n c vs m f
section
variable {w w' : World} {B : Nat} {eo eb : TypeId} {A : Option Addr} {n c m : Nat} {vs : List Sl} {f g : Nat → Nat → Bool}
theorem TBv.len (h : TBv w B eo eb A n c vs m f) : vs.length = n := by have := h.os.len; simpa using this
theorem TBv.outer_row (h : TBv w B eo eb A n c vs m f) {j : Nat} {v : Sl} (hv : vs[j]? = some v) : blk v.1 = none ∨ blk v.1 ≠ blk A := OS.typed (h.rows j v hv).2 h.os (fun e => h.ne e.symm)
theorem TBv.kept {r : Option Nat} (h : TBv w B eo eb A n c vs m f) (hg : w.grownBy w' r) (h0 : blk A = none ∨ blk A ≠ r) (hr : ∀ (j : Nat) (v : Sl), vs[j]? = some v → blk v.1 = none ∨ blk v.1 ≠ r) : TBv w' B eo eb A n c vs m f :=
  ⟨h.os.kept hg h0, fun j v hv => ⟨(h.rows j v hv).1, (h.rows j v hv).2.kept hg (hr j v hv)⟩, h.sep, h.ne⟩
theorem TBv.below (h : TBv w B eo eb A n c vs m f) (hb : Below w.heap.size w w') : TBv w' B eo eb A n c vs m f :=
  h.kept (r := none) (grownBy_of_below hb none) (by cases A <;> simp [blk]) (fun j v _ => by obtain ⟨a, b, c⟩ := v; cases a <;> simp [blk])
theorem TB.below (h : TB w B eo eb A n c m f) (hb : Below w.heap.size w w') : TB w' B eo eb A n c m f := by
  obtain ⟨vs, h⟩ := h
  exact ⟨vs, h.below hb⟩
theorem TB.more {B' : Nat} (h : TB w B eo eb A n c m f) (hB : B' ≤ B) : TB w B' eo eb A n c m f := by
  obtain ⟨vs, h⟩ := h
  exact ⟨vs, h.os.more hB, fun j v hv => ⟨(h.rows j v hv).1, (h.rows j v hv).2.more hB⟩, h.sep, h.ne⟩
theorem TB.setLow (h : TB w B eo eb A n c m f) {p : Addr} (hp : p.block < B) (u : Value) : TB (w.setCell p u) B eo eb A n c m f := by
  obtain ⟨vs, h⟩ := h
  exact ⟨vs, h.os.setLow hp u, fun j v hv => ⟨(h.rows j v hv).1, (h.rows j v hv).2.setLow hp u⟩, h.sep, h.ne⟩
theorem TB.of_own (h : OS w B eo 1 A 0 c []) (hne : eo ≠ eb) : TB w B eo eb A 0 c m f :=
  ⟨[], h, fun j v h => by simp at h, fun i j v u _ h => by simp at h, hne⟩
theorem TB.nil_ (w : World) (B : Nat) {eo eb : TypeId} (hne : eo ≠ eb) (m : Nat) (f : Nat → Nat → Bool) : TB w B eo eb none 0 0 m f := TB.of_own (OS.nil_ w B eo 1) hne
theorem TB.cap (h : TB w B eo eb A n c m f) : n ≤ c ∧ c ≤ 9223372036854775807 := by obtain ⟨vs, h⟩ := h; exact h.os.cap
theorem TB.congr (h : TB w B eo eb A n c m f) (hg : ∀ a b, a < n → b < m → f a b = g a b) : TB w B eo eb A n c m g := by
  obtain ⟨vs, h⟩ := h
  refine ⟨vs, h.os, fun j v hv => ⟨(h.rows j v hv).1, ?_⟩, h.sep, h.ne⟩
  have hj : j < n := by rw [← h.len]; exact (List.getElem?_eq_some_iff.1 hv).1
  rw [← bools_congr (f := f j) fun b hb => hg j b hj hb]
  exact (h.rows j v hv).2
/-- a row's header, and what stands in it -/
theorem TBv.get (h : TBv w B eo eb A n c vs m f) {k : Nat} (hk : k < n) : ∃ g v, A = some ⟨g, 0, none⟩ ∧ vs[k]? = some v ∧ w.cell? ⟨g, k, none⟩ = some (.slice v.1 m v.2.2) ∧ m ≤ v.2.2 ∧ v.2.2 ≤ 9223372036854775807 ∧
    (∀ b, b < m → ∃ r, v.1 = some ⟨r, 0, none⟩ ∧ w.cell? ⟨r, b, none⟩ = some (.bool (f k b)) ∧ w.frozen? ⟨r, b, none⟩ = false ∧ B ≤ r ∧ r < w.heap.size) := by
  have hj : k < vs.length := by rw [h.len]; exact hk
  have hv := List.getElem?_eq_getElem hj
  obtain ⟨g, ha, hc, hf⟩ := h.os.cell (j := k) (u := slv vs[k]) (by rw [List.getElem?_map, hv]; rfl)
  obtain ⟨e, ho⟩ := h.rows k _ hv
  refine ⟨g, vs[k], ha, hv, ?_, ?_, ho.cap.2, fun b hb => ?_⟩
  · rw [hc]; unfold slv; rw [e]
  · have := ho.cap.1; omega
  · obtain ⟨r, hr, hcr, hfr⟩ := ho.cell (bools_at hb)
    have := ho.lt (k := r) (by rw [hr]; rfl)
    exact ⟨r, hr, hcr, hfr, this.1, this.2⟩
/-- a truth value is written over -/
theorem TBv.set (h : TBv w B eo eb A n c vs m f) {k : Nat} {v : Sl} {r : Nat} (hv : vs[k]? = some v) (hr : v.1 = some ⟨r, 0, none⟩) (b : Nat) (x : Bool) :
    TBv (w.setCell ⟨r, b, none⟩ (.bool x)) B eo eb A n c vs m (fun a d => if a = k ∧ d = b then x else f a d) := by
  have hg : w.grownBy (w.setCell ⟨r, b, none⟩ (.bool x)) (blk v.1) := by rw [hr]; exact grown_set
  have hou := h.outer_row hv
  refine ⟨h.os.kept hg ?_, fun j u hu => ⟨(h.rows j u hu).1, ?_⟩, h.sep, h.ne⟩
  · rcases hou with h1 | h1
    · rw [hr] at h1; cases h1
    · exact .inr fun e => h1 e.symm
  · by_cases e : j = k
    · subst e
      rw [hv] at hu
      injection hu with hu
      subst hu
      have ho := (h.rows j v hv).2
      obtain ⟨v1, v2, v3⟩ := v
      simp only at hr
      subst hr
      have := ho.set b (.bool x)
      rw [bools_set] at this
      rwa [bools_congr (g := fun d => if j = j ∧ d = b then x else f j d) fun d _ => by simp] at this
    · have ho := (h.rows j u hu).2.kept hg (h.sep j k u v e hu hv)
      rwa [bools_congr (g := fun d => if j = k ∧ d = b then x else f j d) fun d _ => by simp [e]] at ho
/-- a further row -/
theorem TBv.push (h : TBv w B eo eb A n c vs m f) {v : Sl} (hm : v.2.1 = m) (ho : OS w B eb 1 v.1 v.2.1 v.2.2 (bools m (f n))) (hap : ∀ (j : Nat) (u : Sl), vs[j]? = some u → apart u v)
    {A' : Option Addr} {c' : Nat} (hg : w.grownBy w' (blk A)) (hos : OS w' B eo 1 A' (n + 1) c' (vs.map slv ++ [.slice v.1 v.2.1 v.2.2])) : TB w' B eo eb A' (n + 1) c' m f := by
  have hvA : blk v.1 = none ∨ blk v.1 ≠ blk A := OS.typed ho h.os (fun e => h.ne e.symm)
  have hlen := h.len
  refine ⟨vs ++ [v], by simpa [slv] using hos, fun j u hu => ?_, fun i j u x hij hu hx => ?_, h.ne⟩
  · rw [List.getElem?_append] at hu
    split at hu
    · exact ⟨(h.rows j u hu).1, (h.rows j u hu).2.kept hg (h.outer_row hu)⟩
    · have hj := (List.getElem?_eq_some_iff.1 hu).1
      simp at hj
      have e : j = n := by omega
      rw [e, hlen, Nat.sub_self] at hu
      simp at hu
      subst hu
      subst e
      exact ⟨hm, ho.kept hg hvA⟩
  · rw [List.getElem?_append] at hu hx
    split at hu
    · split at hx
      · exact h.sep i j u x hij hu hx
      · have : x = v := by simpa using List.mem_of_getElem? hx
        subst this
        exact hap i u hu
    · have hu' : u = v := by simpa using List.mem_of_getElem? hu
      subst hu'
      split at hx
      · exact (hap j x hx).symm
      · have a1 := (List.getElem?_eq_some_iff.1 hu).1
        have a2 := (List.getElem?_eq_some_iff.1 hx).1
        simp at a1 a2
        omega
theorem TBv.apart_new (h : TBv w B eo eb A n c vs m f) {v : Sl} (hn : ∀ b, blk v.1 = some b → w.heap.size ≤ b) : ∀ (j : Nat) (u : Sl), vs[j]? = some u → apart u v := fun j u hu => by
  unfold apart
  cases hb : blk u.1 with
  | none => exact .inl rfl
  | some b =>
    refine .inr fun e => ?_
    have h1 := ((h.rows j u hu).2.lt hb).2
    have h2 := hn b e.symm
    omega
end
end Go.Proofs.Ytcnjlkabdfcjdaa
