/- Plain words for exact covers: the search that both sides run. No condition beyond those stated. -/
import Derived.Test.YtdcoppighkbofaaGC
import Derived.Test.YtdcoppighkbofaaGA
import Derived.Test.YtdcoppighkbofaaHL
import Derived.Test.YtdcoppighkbofaaHF
import Derived.Test.YtdcoppighkbofaaGM
import Derived.Test.YtdcoppighkbofaaGF
set_option linter.unusedVariables false
set_option linter.unusedSimpArgs false
namespace Go.Proofs.Ytdcoppighkbofaa

/-- a valid problem -/
structure Cover (v : Int) (os : List (List Int)) : Prop where
  v1 : 1 ≤ v
  v2 : v ≤ 64
  len : os.length ≤ 256
  blk : ∀ i, i < os.length → Block (row os i) v
def memB (zs : List Int) (x : Int) : Bool := zs.any fun y => y == x
theorem memB_true {zs : List Int} {x : Int} : memB zs x = true ↔ x ∈ zs := by
  unfold memB
  rw [List.any_eq_true]
  constructor
  · rintro ⟨y, h1, h2⟩
    rw [beq_iff_eq] at h2
    exact h2 ▸ h1
  · exact fun h => ⟨x, h, by simp⟩
theorem memB_false {zs : List Int} {x : Int} : memB zs x = false ↔ x ∉ zs := by
  rw [← memB_true]; simp
/-- an item that a chosen option covers -/
def covB (os : List (List Int)) (ch : List Nat) (x : Int) : Bool := ch.any fun k => memB (row os k) x
/-- no item of an option is covered -/
def openB (os : List (List Int)) (ch : List Nat) (k : Nat) : Bool := !((row os k).any fun x => covB os ch x)
def withP (os : List (List Int)) (x : Int) : List Nat := (List.range os.length).filter fun k => memB (row os k) x
def optsAt (os : List (List Int)) (ch : List Nat) (x : Int) : List Nat := (withP os x).filter fun k => openB os ch k
/-- the best of the first j items -/
def bestTo (os : List (List Int)) (ch : List Nat) : Nat → Option Nat
  | 0 => none
  | j + 1 => if covB os ch (j : Nat) then bestTo os ch j else match bestTo os ch j with
    | none => some j
    | some i => if (optsAt os ch (j : Nat)).length < (optsAt os ch (i : Nat)).length then some j else some i
def choP (os : List (List Int)) (ch : List Nat) (v : Nat) : List Nat := match bestTo os ch v with
  | none => []
  | some i => optsAt os ch (i : Nat)
def intsN (ch : List Nat) : List Int := ch.map fun (k : Nat) => (k : Int)
/-- the search's state -/
structure Cst where
  left : Nat
  spent : Bool
  found : List (List Int)
def stopC (first : Bool) (s : Cst) : Bool := s.spent || (first && s.found.length != 0)
def visC (os : List (List Int)) (v : Nat) (first : Bool) : Nat → Cst → List Nat → Cst
  | 0, s, _ => if stopC first s then s else { s with spent := true }
  | f + 1, s, ch => if stopC first s then s else if s.left = 0 then { s with spent := true } else
    if (bestTo os ch v).isNone then { s with left := s.left - 1, found := s.found ++ [setG sgnI (intsN ch)] } else
      (choP os ch v).foldl (fun s k => visC os v first f s (ch ++ [k])) { s with left := s.left - 1 }
/-- a stopped search stays -/
theorem visC_stop {os : List (List Int)} {v f : Nat} {first : Bool} {s : Cst} {ch : List Nat} (h : stopC first s = true) : visC os v first f s ch = s := by
  cases f <;> simp [visC, h]
theorem fold_stop {os : List (List Int)} {v f : Nat} {first : Bool} {s : Cst} {ch l : List Nat} (h : stopC first s = true) : l.foldl (fun s k => visC os v first f s (ch ++ [k])) s = s := by
  induction l with
  | nil => rfl
  | cons k l ih => rw [List.foldl_cons, visC_stop h, ih]
theorem foldl_inv {α β : Type} (P : β → Prop) (g : β → α → β) (hg : ∀ b a, P b → P (g b a)) : ∀ (l : List α) (b : β), P b → P (l.foldl g b)
  | [], _, h => h
  | a :: l, b, h => foldl_inv P g hg l (g b a) (hg b a h)
/-- what is left only falls, and what is found is at most what was used -/
structure CLe (s t : Cst) : Prop where
  left : t.left ≤ s.left
  found : t.found.length + t.left ≤ s.found.length + s.left
  more : s.found.length ≤ t.found.length
theorem CLe.refl (s : Cst) : CLe s s := ⟨Nat.le_refl _, Nat.le_refl _, Nat.le_refl _⟩
theorem CLe.trans {s t u : Cst} (h : CLe s t) (k : CLe t u) : CLe s u := ⟨Nat.le_trans k.left h.left, Nat.le_trans k.found h.found, Nat.le_trans h.more k.more⟩
theorem visC_le (os : List (List Int)) (v : Nat) (first : Bool) : ∀ (f : Nat) (s : Cst) (ch : List Nat), CLe s (visC os v first f s ch)
  | 0, s, ch => by
    unfold visC
    split
    · exact CLe.refl _
    · exact ⟨Nat.le_refl _, Nat.le_refl _, Nat.le_refl _⟩
  | f + 1, s, ch => by
    unfold visC
    split
    · exact CLe.refl _
    · split
      · exact ⟨Nat.le_refl _, Nat.le_refl _, Nat.le_refl _⟩
      · split
        · refine ⟨Nat.sub_le _ _, ?_, ?_⟩
          · simp only [List.length_append, List.length_singleton]; omega
          · simp
        · refine CLe.trans (t := { s with left := s.left - 1 }) ⟨Nat.sub_le _ _, by simp only; omega, Nat.le_refl _⟩ ?_
          exact foldl_inv (fun t => CLe { s with left := s.left - 1 } t) _ (fun t k h => h.trans (visC_le os v first f t (ch ++ [k]))) _ _ (CLe.refl _)
/-- all items are covered -/
theorem best_none {os : List (List Int)} {ch : List Nat} : ∀ {v : Nat}, bestTo os ch v = none ↔ ∀ x : Nat, x < v → covB os ch (x : Nat) = true
  | 0 => by simp [bestTo]
  | v + 1 => by
    unfold bestTo
    have ih := best_none (os := os) (ch := ch) (v := v)
    by_cases h : covB os ch (v : Nat) = true
    · rw [if_pos h, ih]
      constructor
      · intro h1 x hx
        by_cases hx' : x = v
        · rw [hx']; exact h
        · exact h1 x (by omega)
      · exact fun h1 x hx => h1 x (by omega)
    · rw [if_neg h]
      constructor
      · intro h1
        exfalso
        revert h1
        cases bestTo os ch v with
        | none => simp
        | some i => simp only; split <;> simp
      · intro h1
        exact absurd (h1 v (by omega)) h
/-! what a choice changes -/
theorem covB_snoc (os : List (List Int)) (ch : List Nat) (k : Nat) (x : Int) : covB os (ch ++ [k]) x = (covB os ch x || memB (row os k) x) := by simp [covB]
theorem open_item {os : List (List Int)} {ch : List Nat} {k : Nat} (h : openB os ch k = true) {x : Int} (hx : x ∈ row os k) : covB os ch x = false := by
  unfold openB at h
  rw [Bool.not_eq_true', List.any_eq_false] at h
  simpa using h x hx
/-- two options have a common item -/
def meetB (os : List (List Int)) (i k : Nat) : Bool := (row os i).any fun x => memB (row os k) x
def offN (os : List (List Int)) (ch : List Nat) (i : Nat) : Nat := (ch.filter fun k => meetB os i k).length
theorem offN_snoc (os : List (List Int)) (ch : List Nat) (k i : Nat) : offN os (ch ++ [k]) i = offN os ch i + (if meetB os i k then 1 else 0) := by
  unfold offN
  rw [List.filter_append, List.length_append]
  by_cases h : meetB os i k = true <;> simp [h]
theorem offN_zero {os : List (List Int)} {ch : List Nat} {i : Nat} : offN os ch i = 0 ↔ openB os ch i = true := by
  unfold offN openB
  rw [List.length_eq_zero_iff, List.filter_eq_nil_iff, Bool.not_eq_true', List.any_eq_false]
  constructor
  · intro h x hx
    unfold covB
    rw [Bool.not_eq_true, List.any_eq_false]
    intro k hk hm
    refine h k hk ?_
    unfold meetB
    rw [List.any_eq_true]
    exact ⟨x, hx, hm⟩
  · intro h k hk hm
    unfold meetB at hm
    rw [List.any_eq_true] at hm
    obtain ⟨x, hx, hmx⟩ := hm
    refine h x hx ?_
    unfold covB
    rw [List.any_eq_true]
    exact ⟨k, hk, hmx⟩
theorem offN_le (os : List (List Int)) (ch : List Nat) (i : Nat) : offN os ch i ≤ ch.length := List.length_filter_le _ _
/-- the chosen options are options, each once -/
structure Chosen (os : List (List Int)) (ch : List Nat) : Prop where
  lt : ∀ k ∈ ch, k < os.length
  nd : ch.Nodup
theorem Chosen.nil (os : List (List Int)) : Chosen os [] := ⟨by simp, List.nodup_nil⟩
theorem mem_optsAt {os : List (List Int)} {ch : List Nat} {x : Int} {k : Nat} : k ∈ optsAt os ch x ↔ k < os.length ∧ x ∈ row os k ∧ openB os ch k = true := by
  unfold optsAt withP
  rw [List.mem_filter, List.mem_filter, List.mem_range, memB_true]
  exact and_assoc
theorem Chosen.snoc {os : List (List Int)} {ch : List Nat} (h : Chosen os ch) {k : Nat} (hk : k < os.length) {x : Int} (hx : x ∈ row os k) (ho : openB os ch k = true) : Chosen os (ch ++ [k]) := by
  refine ⟨fun j hj => ?_, ?_⟩
  · rcases List.mem_append.1 hj with h1 | h1
    · exact h.lt j h1
    · rw [List.mem_singleton.1 h1]; exact hk
  · rw [List.nodup_append]
    refine ⟨h.nd, by simp, fun a ha b hb => ?_⟩
    rw [List.mem_singleton.1 hb]
    rintro rfl
    have h1 := open_item ho hx
    unfold covB at h1
    rw [List.any_eq_false] at h1
    exact h1 a ha (memB_true.2 hx)
theorem Chosen.len {os : List (List Int)} {ch : List Nat} (h : Chosen os ch) : ch.length ≤ os.length := by
  have := h.nd.length_le_of_subset (l₂ := List.range os.length) (fun k hk => List.mem_range.2 (h.lt k hk))
  simpa using this
/-- sorting different numbers is putting them in one after another -/
theorem srt_set {l : List Int} (h : l.Nodup) : srt l = setG sgnI l := by
  refine (setG_eq sgnI_ord ?_ fun x => srt_mem l x).symm
  have h1 := srt_le l
  have h2 : (srt l).Nodup := (srt_perm l).nodup_iff.2 h
  have h3 := h1.and h2
  exact h3.imp fun {x y} h => by
    obtain ⟨h4, h5⟩ := h
    unfold sgnI
    rw [if_pos (by omega)]
    decide
theorem intsN_nodup {ch : List Nat} (h : ch.Nodup) : (intsN ch).Nodup := by
  unfold intsN
  exact List.pairwise_map.2 (List.Pairwise.imp (fun {a b} hab e => hab (by omega)) h)
end Go.Proofs.Ytdcoppighkbofaa
/- A valid problem of covers, on both sides. No condition beyond those stated. -/
namespace Go.Proofs.Ytdcoppighkbofaa
open Go.RowKit

/-- the first k numbers rise and lie below n -/
def riseTo (z : List Int) (v : Int) (k : Nat) : Prop := (∀ j, j < k → 0 ≤ nth z j ∧ nth z j ≤ v - 1) ∧ ∀ j, j + 1 < k → nth z j < nth z (j + 1)
def lastTo (z : List Int) (k : Nat) : Int := if k = 0 then -1 else nth z (k - 1)
theorem riseTo_step {z : List Int} {v : Int} {k : Nat} (h : riseTo z v k) (h1 : lastTo z k + 1 ≤ nth z k) (h2 : nth z k ≤ v - 1) (h0 : 0 ≤ nth z k) : riseTo z v (k + 1) := by
  refine ⟨fun j hj => ?_, fun j hj => ?_⟩
  · rcases Nat.lt_succ_iff_lt_or_eq.1 hj with h' | h'
    · exact h.1 j h'
    · rw [h']; exact ⟨h0, h2⟩
  · by_cases h' : j + 1 < k
    · exact h.2 j h'
    · have e : k = j + 1 := by omega
      subst e
      unfold lastTo at h1
      rw [if_neg (by omega)] at h1
      simp only [Nat.add_sub_cancel] at h1
      omega
theorem riseTo_low {z : List Int} {v : Int} {k : Nat} (h : riseTo z v k) : -1 ≤ lastTo z k ∧ (0 < k → lastTo z k ≤ v - 1) := by
  unfold lastTo
  by_cases h0 : k = 0
  · rw [if_pos h0]; omega
  · rw [if_neg h0]
    have := h.1 (k - 1) (by omega)
    omega
theorem riseTo_all {z : List Int} {v : Int} (h : riseTo z v z.length) : Rises z 0 (v - 1) := ⟨h.1, h.2⟩
theorem rises_last {z : List Int} {v : Int} (h : Rises z 0 (v - 1)) {k : Nat} (hk : k < z.length) : lastTo z k + 1 ≤ nth z k ∧ nth z k ≤ v - 1 := by
  have h1 := h.bd k hk
  unfold lastTo
  by_cases h0 : k = 0
  · rw [if_pos h0]; omega
  · rw [if_neg h0]
    have := h.up (k - 1) (by omega)
    rw [show k - 1 + 1 = k by omega] at this
    omega
set_option maxHeartbeats 400000 in
theorem areIndices_any (A : Option Addr) (n c : Nat) (z : List Int) (v : Int) (w : World) (ha : RI w A n z) (hn : n ≤ 9223372036854775807) (v1 : 0 ≤ v) (v2 : v ≤ 1048576) :
    Calls Try.prog 44 #[.slice A n c, .int .i64 v] w fun e w' => e = .returned (.bool (tB (Rises z 0 (v - 1)))) ∧ w = w' := by
  have hla := Lib.hid ha.len
  go_enter Try.func44, Try.ntmps44
  go_wp2_with fail
  go_loopw [5, 10] (fun l i wr => ∃ k : Nat, k ≤ n ∧ i = .int .i64 k ∧ l = .int .i64 (lastTo z k) ∧ w = wr ∧ riseTo z v k) (fun _ i _ => n - (intOf i).toNat)
  case atStart => exact ⟨0, Nat.zero_le _, rfl, rfl, by trivial, fun _ h => absurd h (by omega), fun _ h => absurd h (by omega)⟩
  case round =>
    obtain ⟨k, hk, rfl, rfl, rfl, hto⟩ := hrel
    have hlw := riseTo_low hto
    by_cases hlt : k < n
    · obtain ⟨a, rfl, hca, hi⟩ := ha.get hlt
      have hlast : lastTo z k ≤ 1048576 := by
        by_cases h0 : 0 < k
        · have := hlw.2 h0; omega
        · have : k = 0 := by omega
          subst this
          simp [lastTo]
      have hl0 := hlw.1
      cases h1 : inB (nth z k) (lastTo z k + 1) (v - 1) with
      | true =>
        obtain ⟨h2, h3⟩ := inB_true h1
        have hst := Lib.hid (riseTo_step hto h2 h3 (by omega))
        have e : lastTo z (k + 1) = nth z k := by unfold lastTo; rw [if_neg (by omega)]; rfl
        have HE := Lib.hid e
        clear e hto hlw h2 h3
        generalize lastTo z k = l at *
        go_wp2_with (go_at_call 41; refine (within_any _ _ _ _).mono ?_; rintro e w' ⟨rfl, rfl⟩; rw [h1])
        go_roundw
        case rel => exact ⟨k + 1, by omega, by go_num, by rw [HE.out], by trivial, hst.out⟩
        case measure => simp [intOf]; omega
      | false =>
        have H := Lib.hid (show tB (Rises z 0 (v - 1)) = false from tB_no fun hh => by
          rw [inB_mk (rises_last hh (by rw [hla.out]; exact hlt))] at h1; cases h1)
        clear hto hlw
        generalize lastTo z k = l at *
        go_wp2_with (go_at_call 41; refine (within_any _ _ _ _).mono ?_; rintro e w' ⟨rfl, rfl⟩; rw [h1])
        go_ret
        exact ⟨by rw [H.out]; rfl, rfl⟩
    · obtain rfl : k = n := by omega
      have H := Lib.hid (show tB (Rises z 0 (v - 1)) = true from tB_yes (riseTo_all (by rw [hla.out]; exact hto)))
      clear hto
      go_wp2
      go_ret
      exact ⟨by rw [H.out]; rfl, rfl⟩
set_option maxHeartbeats 400000 in
theorem validCover1_any (A : Option Addr) (n c : Nat) (z : List Int) (v : Int) (g : Nat) (w : World) (hp : w.cell? ⟨g, 0, none⟩ = some (.int .i64 v)) (ha : RI w A n z) (hn : n ≤ 9223372036854775807) (v1 : 1 ≤ v) (v2 : v ≤ 64) :
    Calls Try.prog 43 #[.slice A n c, .pointer (some ⟨g, 0, none⟩)] w fun e w' => e = .returned (.bool (noBlk v z)) ∧ w = w' := by
  have hla := Lib.hid ha.len
  by_cases h0 : 0 < n
  · have H := Lib.hid (show (!tB (Rises z 0 (v - 1))) = noBlk v z from by
      unfold noBlk
      rw [tB_congr (p := Rises z 0 (v - 1)) (q := Block z v) ⟨fun h => ⟨by rw [hla.out]; exact h0, h⟩, fun h => h.2⟩])
    have h0' : ((n : Int) == 0) = false := by simp; omega
    go_enter Try.func43, Try.ntmps43
    go_wp2_with (go_at_call 44; refine (areIndices_any _ _ _ z _ _ ha hn (by omega) (by omega)).mono ?_; rintro e w' ⟨rfl, rfl⟩)
    go_ret
    exact ⟨by rw [← H.out]; rfl, rfl⟩
  · have H := Lib.hid (show noBlk v z = true from by
      unfold noBlk
      rw [tB_no fun h => h0 (by rw [← hla.out]; exact h.1)]
      rfl)
    obtain rfl : n = 0 := by omega
    go_enter Try.func43, Try.ntmps43
    go_wp2
    go_ret
    exact ⟨by rw [H.out]; rfl, rfl⟩
theorem cover_iff (v : Int) (os : List (List Int)) : Cover v os ↔ (1 ≤ v ∧ v ≤ 64) ∧ os.length ≤ 256 ∧ allBlk os v :=
  ⟨fun h => ⟨⟨h.v1, h.v2⟩, h.len, h.blk⟩, fun h => ⟨h.1.1, h.1.2, h.2.1, h.2.2⟩⟩
set_option maxHeartbeats 400000 in
theorem validCover_any (v : Int) (A : Option Addr) (n c : Nat) (os : List (List Int)) (w : World) (ha : RR w A n os) (hn : n ≤ 9223372036854775807) :
    Calls Try.prog 32 #[.agg #[.int .i64 v, .slice A n c]] w (RetB w (tB (Cover v os))) := by
  have eg : ∀ (args : Array Value) (w : World), (callFunc 43 args).run Try.prog w = .ok (.enter 43 args) w := fun _ _ => by kernel_rfl
  have hla := Lib.hid ha.len
  have hb1 := below_alloc w (.cells #[.int .i64 v, .slice A n c] 28)
  have X := Blk.new w 28 #[.int .i64 v, .slice A n c]
  obtain ⟨x0, x1⟩ := X.cells2
  cases h1 : inB v 1 64 with
  | true =>
    obtain ⟨v1, v2⟩ := inB_true h1
    by_cases h2 : n ≤ 256
    · have hask : AskR 43 #[.pointer (some ⟨w.heap.size, 0, none⟩)] (noBlk v) (w.alloc (.cells #[.int .i64 v, .slice A n c] 28)) := fun A' n' c' z W hW hz h2 h3 =>
        (validCover1_any A' n' c' z v _ W (below_cell hW x0) hz (by omega) v1 v2).mono fun _ _ h => RetB.of_same h
      have H := Lib.hid (show (!os.any (noBlk v)) = tB (Cover v os) by
        rw [noBlk_any]
        exact tB_congr ⟨fun h => (cover_iff v os).2 ⟨⟨v1, v2⟩, by rw [hla.out]; exact h2, h⟩, fun h => h.blk⟩)
      have h2' : ¬ (n : Int) > 256 := by omega
      go_enter Try.func32, Try.ntmps32
      go_wp2_with (first
        | (go_at_call 41; refine (within_any _ _ _ _).mono ?_; rintro e w' ⟨rfl, rfl⟩; rw [h1])
        | (go_at_call 42; refine (containsFuncR _ _ eg (noBlk v) A n c os _ (ha.keep hb1) hn hask).mono ?_; rintro e w2 ⟨rfl, hb2⟩))
      go_ret
      exact ⟨by rw [← H.out]; rfl, below_then hb1 hb2⟩
    · have H := Lib.hid (show tB (Cover v os) = false from tB_no fun hh => h2 (by rw [← hla.out]; exact hh.len))
      have h2' : (n : Int) > 256 := by omega
      go_enter Try.func32, Try.ntmps32
      go_wp2_with (go_at_call 41; refine (within_any _ _ _ _).mono ?_; rintro e w' ⟨rfl, rfl⟩; rw [h1])
      go_ret
      exact ⟨by rw [H.out]; rfl, hb1⟩
  | false =>
    have H := Lib.hid (show tB (Cover v os) = false from tB_no fun hh => by rw [inB_mk ⟨hh.v1, hh.v2⟩] at h1; cases h1)
    go_enter Try.func32, Try.ntmps32
    go_wp2_with (go_at_call 41; refine (within_any _ _ _ _).mono ?_; rintro e w' ⟨rfl, rfl⟩; rw [h1])
    go_ret
    exact ⟨by rw [H.out]; rfl, hb1⟩
set_option maxRecDepth 100000 in
set_option maxHeartbeats 2000000 in
theorem l24Ok_any (g : Nat) (v : Int) (A : Option Addr) (n c : Nat) (os : List (List Int)) (w : World) (hB : Blk w g 28 #[.int .i64 v, .slice A n c]) (ha : RR w A n os) (hn : n ≤ 9223372036854775807) :
    Calls Try.prog 28 #[.pointer (some ⟨g, 0, none⟩)] w (Quiet w (.bool (tB (Cover v os)))) := by
  have hla := Lib.hid ha.len
  obtain ⟨x0, x1⟩ := hB.cells2
  cases h1 : inB v 1 64 with
  | false =>
    have H := Lib.hid (show tB (Cover v os) = false from tB_no fun hh => by rw [inB_mk ⟨hh.v1, hh.v2⟩] at h1; cases h1)
    go_enter Try.func28, Try.ntmps28
    go_wp2_with (go_at_call 29; refine (l00In_any _ _ _ _).mono ?_; rintro e w' ⟨rfl, rfl⟩; rw [h1])
    go_ret
    exact ⟨by rw [H.out]; rfl, Drawn.refl _⟩
  | true =>
    obtain ⟨v1, v2⟩ := inB_true h1
    by_cases h2 : n ≤ 256
    · have h2' : ¬ (n : Int) > 256 := by omega
      go_enter Try.func28, Try.ntmps28
      go_wp2_with (go_at_call 29; refine (l00In_any _ _ _ _).mono ?_; rintro e w' ⟨rfl, rfl⟩; rw [h1])
      go_loopw [3] (fun i wr => ∃ k : Nat, k ≤ n ∧ i = .int .i64 k ∧ Drawn w wr ∧ ∀ j, j < k → Block (row os j) v) (fun i _ => n - (intOf i).toNat)
      case atStart => exact ⟨0, Nat.zero_le _, rfl, Drawn.refl _, fun _ h => absurd h (by omega)⟩
      case round =>
        obtain ⟨k, hk, rfl, hd, hto⟩ := hrel
        clear x0 x1
        obtain ⟨x0, x1⟩ := (hB.after hd.below).cells2
        by_cases hlt : k < n
        · obtain ⟨a, A1, n1, c1, rfl, hca, hn1, hc1, ha1⟩ := (ha.drawn hd).get hlt
          cases h3 : tB (Block (row os k) v) with
          | false =>
            have hcall : ∀ q, Calls Try.prog 36 #[.slice A1 n1 c1, .int .i64 v] (wr.drewN q) (Quiet (wr.drewN q) (.bool false)) := fun q => by
              rw [← h3]; exact l10Block_any A1 n1 c1 _ v _ (ha1.drewN q) (by omega) v1 (by omega)
            have H := Lib.hid (show tB (Cover v os) = false from tB_no fun hh => by
              rw [tB_yes (hh.blk k (by rw [hla.out]; exact hlt))] at h3; cases h3)
            clear hto h3
            go_wp2
            go_quiet ((go_at_call 36; exact Quiet.call (hcall _)))
            go_wp2
            go_ret
            exact ⟨by rw [H.out]; rfl, hd.more _⟩
          | true =>
            have hcall : ∀ q, Calls Try.prog 36 #[.slice A1 n1 c1, .int .i64 v] (wr.drewN q) (Quiet (wr.drewN q) (.bool true)) := fun q => by
              rw [← h3]; exact l10Block_any A1 n1 c1 _ v _ (ha1.drewN q) (by omega) v1 (by omega)
            have hbk := tB_true.1 h3
            have H := Lib.hid (show ∀ j, j < k + 1 → Block (row os j) v from fun j hj => by
              rcases Nat.lt_succ_iff_lt_or_eq.1 hj with h' | h'
              · exact hto j h'
              · rw [h']; exact hbk)
            clear h3 hto hbk
            go_wp2
            go_quiet ((go_at_call 36; exact Quiet.call (hcall _)))
            go_wp2
            go_roundw
            case rel => exact ⟨k + 1, by omega, by go_num, hd.more _, H.out⟩
            case measure => simp [intOf]; omega
        · obtain rfl : k = n := by omega
          have H := Lib.hid (show tB (Cover v os) = true from tB_yes ⟨v1, v2, by rw [hla.out]; exact h2, fun i hi => hto i (by rw [← hla.out]; exact hi)⟩)
          clear hto
          go_wp2
          go_ret
          exact ⟨by rw [H.out]; rfl, hd⟩
    · have H := Lib.hid (show tB (Cover v os) = false from tB_no fun hh => h2 (by rw [← hla.out]; exact hh.len))
      have h2' : (n : Int) > 256 := by omega
      go_enter Try.func28, Try.ntmps28
      go_wp2_with (go_at_call 29; refine (l00In_any _ _ _ _).mono ?_; rintro e w' ⟨rfl, rfl⟩; rw [h1])
      go_ret
      exact ⟨by rw [H.out]; rfl, Drawn.refl _⟩
end Go.Proofs.Ytdcoppighkbofaa
/- Covers, the reference's small functions. No condition beyond those stated. -/
namespace Go.Proofs.Ytdcoppighkbofaa
open Go.RowKit

def meetL (a b : List Int) : Bool := a.any fun x => memB b x
theorem tB_memB (x : Int) (zs : List Int) : tB (x ∈ zs) = memB zs x := by
  by_cases h : x ∈ zs
  · rw [tB_yes h, memB_true.2 h]
  · rw [tB_no h, memB_false.2 h]
def noMeet (a b : List Int) (k : Nat) : Prop := ∀ j, j < k → memB b (nth a j) = false
theorem noMeet_all {a b : List Int} (h : noMeet a b a.length) : meetL a b = false := by
  unfold meetL
  rw [List.any_eq_false]
  intro x hx
  obtain ⟨j, hj, rfl⟩ := List.mem_iff_getElem.1 hx
  have := h j hj
  rw [nth_get hj] at this
  simp [this]
theorem meet_at {a b : List Int} {k : Nat} (hk : k < a.length) (h : memB b (nth a k) = true) : meetL a b = true := by
  unfold meetL
  rw [List.any_eq_true]
  exact ⟨nth a k, by rw [nth_get hk]; exact List.getElem_mem hk, h⟩
set_option maxHeartbeats 400000 in
theorem l24Meets_any (A B : Option Addr) (n c m d : Nat) (a b : List Int) (w : World) (ha : RI w A n a) (hb : RI w B m b) (hn : n ≤ 9223372036854775807) (hm : m ≤ 9223372036854775807) :
    Calls Try.prog 54 #[.slice A n c, .slice B m d] w (Quiet w (.bool (meetL a b))) := by
  have hla := Lib.hid ha.len
  go_enter Try.func54, Try.ntmps54
  go_wp2_with fail
  go_loopw [5] (fun i wr => ∃ k : Nat, k ≤ n ∧ i = .int .i64 k ∧ Drawn w wr ∧ noMeet a b k) (fun i _ => n - (intOf i).toNat)
  case atStart => exact ⟨0, Nat.zero_le _, rfl, Drawn.refl _, fun _ h => absurd h (by omega)⟩
  case round =>
    obtain ⟨k, hk, rfl, hd, hno⟩ := hrel
    by_cases hlt : k < n
    · obtain ⟨a', rfl, hca, hi⟩ := (ha.drawn hd).get hlt
      have hcall := Lib.hid (fun (w' : World) (h : RI w' B m b) => l00Has_any B m d b (nth a k) w' h hm)
      cases h3 : memB b (nth a k) with
      | true =>
        have H := Lib.hid (meet_at (by rw [hla.out]; exact hlt) h3)
        go_wp2_with (go_at_call 39; refine (hcall.out _ (hb.drawn hd)).mono ?_; rintro e w' ⟨rfl, rfl⟩; rw [tB_memB, h3])
        go_ret
        exact ⟨by rw [H.out]; rfl, hd⟩
      | false =>
        have H := Lib.hid (show noMeet a b (k + 1) from fun j hj => by
          rcases Nat.lt_succ_iff_lt_or_eq.1 hj with h' | h'
          · exact hno j h'
          · rw [h']; exact h3)
        go_wp2_with (go_at_call 39; refine (hcall.out _ (hb.drawn hd)).mono ?_; rintro e w' ⟨rfl, rfl⟩; rw [tB_memB, h3])
        go_roundw
        case rel => exact ⟨k + 1, by omega, by go_num, hd, H.out⟩
        case measure => simp [intOf]; omega
    · obtain rfl : k = n := by omega
      have H := Lib.hid (noMeet_all (show noMeet a b a.length by rw [hla.out]; exact hno))
      go_wp2
      go_ret
      exact ⟨by rw [H.out]; rfl, hd⟩
set_option maxHeartbeats 400000 in
theorem l24Sorted_any (A : Option Addr) (n c : Nat) (zs : List Int) (w : World) (ha : RI w A n zs) (hn : n ≤ 1048576) :
    Calls Try.prog 38 #[.slice A n c] w (RetI w 2 (setG sgnI zs)) := by
  have hla := Lib.hid ha.len
  go_enter Try.func38, Try.ntmps38
  go_wp2_with fail
  have hb1 := below_alloc w (.cells #[] 2)
  have ho0 : OI (w.alloc (.cells #[] 2)) w.heap.size 2 (some ⟨w.heap.size, 0, none⟩) 0 0 (setG sgnI (zs.take 0)) := by simpa [setG, ints] using OI.lit w w.heap.size 2 [] (Nat.le_refl _) (by simp) (by simp [All64])
  go_loopw [3, 4] (fun l i wr => ∃ (k : Nat) (A' : Option Addr) (m c' : Nat), k ≤ n ∧ i = .int .i64 k ∧ l = .slice A' m c' ∧ m ≤ k ∧ OI wr w.heap.size 2 A' m c' (setG sgnI (zs.take k)) ∧ Below w.heap.size w wr) (fun _ i _ => n - (intOf i).toNat)
  case atStart => exact ⟨0, _, 0, 0, Nat.zero_le _, rfl, rfl, Nat.le_refl _, ho0, hb1⟩
  case round =>
    obtain ⟨k, A', m, c', hk, rfl, rfl, hmk, ho, hw⟩ := hrel
    by_cases hlt : k < n
    · obtain ⟨a', rfl, hca, hi⟩ := (ha.keep hw).get hlt
      have HS := Lib.hid (show setG sgnI (zs.take (k + 1)) = putG sgnI (setG sgnI (zs.take k)) (nth zs k) by
        rw [List.take_succ_eq_append_getElem (by rw [hla.out]; exact hlt), setG_snoc, nth_get (by rw [hla.out]; exact hlt)])
      have hput := l00Put_any A' m c' _ (nth zs k) wr ho.reads (by omega) hi
      rw [← HS.out] at hput
      go_wp2_with fail
      refine hput.mono ?_
      rintro e w2 ⟨A2, m2, c2, rfl, ho2, hb2⟩
      have hm2 : m2 ≤ k + 1 := by
        have h1 := ho2.len
        have h2 := setG_len (c := sgnI) (zs.take (k + 1))
        rw [h1, List.length_take] at h2
        omega
      have hw2 := hw.trans (hb2.mono hw.size)
      have ho2' := ho2.more hw.size
      clear hput
      go_wp2
      go_roundw
      case rel => exact ⟨k + 1, A2, m2, c2, by omega, by go_num, rfl, hm2, ho2', hw2⟩
      case measure => simp [intOf]; omega
    · obtain rfl : k = n := by omega
      rw [List.take_of_length_le (by rw [hla.out]; exact Nat.le_refl _)] at ho
      go_wp2
      go_ret
      exact ⟨_, _, _, rfl, ho, hw⟩
end Go.Proofs.Ytdcoppighkbofaa
/- Covers, the reference's search: the best item, marking. No condition beyond those stated. -/
namespace Go.Proofs.Ytdcoppighkbofaa
open Go.RowKit

/-- flags of the first n items -/
def flags (n : Nat) (f : Nat → Bool) : List Value := (List.range n).map fun j => .bool (f j)
/-- the reference's search in memory: its struct in block g, the problem in block gp; its own memory behind w0, at whose end the options lay already -/
structure SCv (w0 w : World) (g gp : Nat) (v : Nat) (OA : Option Addr) (on oc : Nat) (os : List (List Int)) (D : Nat) (O : Option Addr) (fc : Nat) (C : Option Addr) (m mc : Nat) (FA : Option Addr) (fn fk : Nat) (count nodes budget most : Int) (dn : Nat → Bool) (off : List Int) (ch : List Nat) : Prop where
  x : Blk w g 48 #[.pointer (some ⟨gp, 0, none⟩), .slice (some ⟨D, 0, none⟩) v v, .slice O on fc, .slice C m mc, .slice FA fn fk, .int .i64 count, .int .i64 nodes, .int .i64 budget, .int .i64 most]
  p : Blk w gp 28 #[.int .i64 v, .slice OA on oc]
  b : Below w0.heap.size w0 w
  o0 : RR w0 OA on os
  gl : g = w0.heap.size
  pl : gp < w0.heap.size
  d : OS w (w0.heap.size + 1) 4 1 (some ⟨D, 0, none⟩) v v (flags v dn)
  f : OI w (w0.heap.size + 1) 2 O on fc off
  c : OI w (w0.heap.size + 1) 2 C m mc (intsN ch)
theorem flags_len (n : Nat) (f : Nat → Bool) : (flags n f).length = n := by simp [flags]
theorem flags_at {n : Nat} {f : Nat → Bool} {j : Nat} (h : j < n) : (flags n f)[j]? = some (.bool (f j)) := by simp [flags, h]
def offL (os : List (List Int)) (ch : List Nat) : List Int := (List.range os.length).map fun i => (offN os ch i : Int)
theorem offL_len (os : List (List Int)) (ch : List Nat) : (offL os ch).length = os.length := by simp [offL]
theorem offL_nth {os : List (List Int)} {ch : List Nat} {i : Nat} (h : i < os.length) : nth (offL os ch) i = (offN os ch i : Int) := by
  rw [nth_get (by rw [offL_len]; exact h)]
  simp [offL]
def bestI (os : List (List Int)) (ch : List Nat) (j : Nat) : Int := match bestTo os ch j with
  | none => -1
  | some i => (i : Int)
def leastI (os : List (List Int)) (ch : List Nat) (j : Nat) : Int := match bestTo os ch j with
  | none => 0
  | some i => ((optsAt os ch (i : Nat)).length : Int)
def cntTo (os : List (List Int)) (ch : List Nat) (x : Int) (k : Nat) : Nat := ((List.range k).filter fun i => memB (row os i) x && openB os ch i).length
theorem cntTo_all (os : List (List Int)) (ch : List Nat) (x : Int) : cntTo os ch x os.length = (optsAt os ch x).length := by
  unfold cntTo optsAt withP
  rw [List.filter_filter]
  congr 2
  funext i
  rw [Bool.and_comm]
theorem cntTo_step (os : List (List Int)) (ch : List Nat) (x : Int) (k : Nat) : cntTo os ch x (k + 1) = cntTo os ch x k + (if memB (row os k) x && openB os ch k then 1 else 0) := by
  unfold cntTo
  rw [List.range_succ, List.filter_append, List.length_append]
  congr 1
  by_cases h : (memB (row os k) x && openB os ch k) = true
  · simp [h]
  · simp [h]
theorem cntTo_le (os : List (List Int)) (ch : List Nat) (x : Int) (k : Nat) : cntTo os ch x k ≤ k := by
  unfold cntTo
  exact Nat.le_trans (List.length_filter_le _ _) (by simp)
theorem best_cov {os : List (List Int)} {ch : List Nat} {j : Nat} (h : covB os ch (j : Nat) = true) : bestI os ch (j + 1) = bestI os ch j ∧ leastI os ch (j + 1) = leastI os ch j := by
  unfold bestI leastI
  rw [show bestTo os ch (j + 1) = bestTo os ch j by rw [bestTo, if_pos h]]
  exact ⟨rfl, rfl⟩
theorem best_take {os : List (List Int)} {ch : List Nat} {j : Nat} (h : covB os ch (j : Nat) = false) (h1 : bestI os ch j < 0 ∨ ((optsAt os ch (j : Nat)).length : Int) < leastI os ch j) : bestI os ch (j + 1) = j ∧ leastI os ch (j + 1) = ((optsAt os ch (j : Nat)).length : Int) := by
  have hb : bestTo os ch (j + 1) = some j := by
    rw [bestTo, if_neg (by rw [h]; simp)]
    unfold bestI leastI at h1
    cases hb : bestTo os ch j with
    | none => rfl
    | some i =>
      rw [hb] at h1
      simp only at h1
      simp only
      rw [if_pos (by omega)]
  unfold bestI leastI
  rw [hb]
  exact ⟨rfl, rfl⟩
theorem best_keep {os : List (List Int)} {ch : List Nat} {j : Nat} (h : covB os ch (j : Nat) = false) (h1 : ¬ (bestI os ch j < 0 ∨ ((optsAt os ch (j : Nat)).length : Int) < leastI os ch j)) : bestI os ch (j + 1) = bestI os ch j ∧ leastI os ch (j + 1) = leastI os ch j := by
  have hb : bestTo os ch (j + 1) = bestTo os ch j := by
    rw [bestTo, if_neg (by rw [h]; simp)]
    unfold bestI leastI at h1
    cases hb : bestTo os ch j with
    | none => rw [hb] at h1; simp at h1
    | some i =>
      rw [hb] at h1
      simp only at h1
      simp only
      rw [if_neg (by omega)]
  unfold bestI leastI
  rw [hb]
  exact ⟨rfl, rfl⟩
theorem best_bd (os : List (List Int)) (ch : List Nat) : ∀ j : Nat, -1 ≤ bestI os ch j ∧ bestI os ch j < (j : Int) ∧ 0 ≤ leastI os ch j ∧ leastI os ch j ≤ os.length := fun j => by
  have hl : ∀ x : Int, (optsAt os ch x).length ≤ os.length := fun x => by rw [← cntTo_all]; exact cntTo_le _ _ _ _
  induction j with
  | zero => simp [bestI, leastI, bestTo]
  | succ j ih =>
    cases h : covB os ch (j : Nat) with
    | true => obtain ⟨h1, h2⟩ := best_cov h; rw [h1, h2]; omega
    | false =>
      by_cases h1 : bestI os ch j < 0 ∨ ((optsAt os ch (j : Nat)).length : Int) < leastI os ch j
      · obtain ⟨h2, h3⟩ := best_take h h1; rw [h2, h3]; have := hl (j : Nat); omega
      · obtain ⟨h2, h3⟩ := best_keep h h1; rw [h2, h3]; omega
theorem SCv.cells {w0 w : World} {g gp v : Nat} {OA : Option Addr} {on oc : Nat} {os : List (List Int)} {D : Nat} {O : Option Addr} {fc : Nat} {C : Option Addr} {m mc : Nat} {FA : Option Addr} {fn fk : Nat} {count nodes budget most : Int} {dn : Nat → Bool} {off : List Int} {ch : List Nat} (h : SCv w0 w g gp v OA on oc os D O fc C m mc FA fn fk count nodes budget most dn off ch) :
    (w.cell? ⟨gp, 0, none⟩ = some (.int .i64 v) ∧ w.cell? ⟨gp, 1, none⟩ = some (.slice OA on oc)) ∧ (w.cell? ⟨g, 0, none⟩ = some (.pointer (some ⟨gp, 0, none⟩)) ∧ w.cell? ⟨g, 1, none⟩ = some (.slice (some ⟨D, 0, none⟩) v v) ∧ w.cell? ⟨g, 2, none⟩ = some (.slice O on fc) ∧ w.cell? ⟨g, 3, none⟩ = some (.slice C m mc) ∧ w.cell? ⟨g, 4, none⟩ = some (.slice FA fn fk)) ∧ w.cell? ⟨g, 5, none⟩ = some (.int .i64 count) ∧ w.cell? ⟨g, 6, none⟩ = some (.int .i64 nodes) ∧ w.cell? ⟨g, 7, none⟩ = some (.int .i64 budget) ∧ w.cell? ⟨g, 8, none⟩ = some (.int .i64 most) :=
  ⟨h.p.cells2, ⟨h.x.cell 0, h.x.cell 1, h.x.cell 2, h.x.cell 3, h.x.cell 4⟩, h.x.cell 5, h.x.cell 6, h.x.cell 7, h.x.cell 8⟩
theorem SCv.drawn {w0 w w' : World} {g gp v : Nat} {OA : Option Addr} {on oc : Nat} {os : List (List Int)} {D : Nat} {O : Option Addr} {fc : Nat} {C : Option Addr} {m mc : Nat} {FA : Option Addr} {fn fk : Nat} {count nodes budget most : Int} {dn : Nat → Bool} {off : List Int} {ch : List Nat} (h : SCv w0 w g gp v OA on oc os D O fc C m mc FA fn fk count nodes budget most dn off ch) (hb : Below w.heap.size w w') : SCv w0 w' g gp v OA on oc os D O fc C m mc FA fn fk count nodes budget most dn off ch :=
  ⟨h.x.after hb, h.p.after hb, h.b.trans (hb.mono h.b.size), h.o0, h.gl, h.pl, h.d.below hb, h.f.below hb, h.c.below hb⟩
theorem SCv.o {w0 w : World} {g gp v : Nat} {OA : Option Addr} {on oc : Nat} {os : List (List Int)} {D : Nat} {O : Option Addr} {fc : Nat} {C : Option Addr} {m mc : Nat} {FA : Option Addr} {fn fk : Nat} {count nodes budget most : Int} {dn : Nat → Bool} {off : List Int} {ch : List Nat} (h : SCv w0 w g gp v OA on oc os D O fc C m mc FA fn fk count nodes budget most dn off ch) : RR w OA on os := h.o0.keep h.b
set_option maxHeartbeats 400000 in
theorem best_any (w0 w : World) (g gp v : Nat) (OA : Option Addr) (on oc : Nat) (os : List (List Int)) (D : Nat) (O : Option Addr) (fc : Nat) (C : Option Addr) (m mc : Nat) (FA : Option Addr) (fn fk : Nat) (count nodes budget most : Int) (ch : List Nat)
    (h : SCv w0 w g gp v OA on oc os D O fc C m mc FA fn fk count nodes budget most (fun x => covB os ch (x : Nat)) (offL os ch) ch) (hv : v ≤ 64) (hon : on ≤ 256) :
    Calls Try.prog 37 #[.pointer (some ⟨g, 0, none⟩)] w (Quiet w (.int .i64 (bestI os ch v))) := by
  go_enter Try.func37, Try.ntmps37
  go_wp2_with fail
  have hlo := Lib.hid h.o.len
  go_loopw [3, 4, 5] (fun o l i wr => ∃ j : Nat, j ≤ v ∧ i = .int .i64 j ∧ o = .int .i64 (bestI os ch j) ∧ l = .int .i64 (leastI os ch j) ∧ Drawn w wr) (fun _ _ i _ => v - (intOf i).toNat)
  case atStart => exact ⟨0, Nat.zero_le _, rfl, rfl, rfl, Drawn.refl _⟩
  case round =>
    obtain ⟨j, hj, rfl, rfl, rfl, hd⟩ := hrel
    have hr := h.drawn hd.below
    obtain ⟨⟨x0, x1⟩, ⟨y0, y1, y2, -, -⟩, -⟩ := hr.cells
    by_cases hlt : j < v
    · obtain ⟨gd, had, cd, -⟩ := hr.d.cell (flags_at hlt)
      cases had
      obtain ⟨bb1, bb2, bb3, bb4⟩ := best_bd os ch j
      cases hc : covB os ch (j : Nat) with
      | true =>
        rw [hc] at cd
        obtain ⟨e1, e2⟩ := best_cov hc
        have E1 := Lib.hid e1
        have E2 := Lib.hid e2
        clear e1 e2
        go_wp2
        go_roundw
        case rel => exact ⟨j + 1, by omega, by go_num, by rw [E1.out], by rw [E2.out], hd⟩
        case measure => simp [intOf]; omega
      | false =>
        rw [hc] at cd
        go_wp2
        go_loopw [6, 7] (fun n i wr2 => ∃ k : Nat, k ≤ on ∧ i = .int .i64 k ∧ n = .int .i64 (cntTo os ch (j : Nat) k) ∧ Drawn w wr2) (fun _ i _ => on - (intOf i).toNat)
        case atStart => exact ⟨0, Nat.zero_le _, rfl, by simp [cntTo], hd⟩
        case round =>
          clear x0 x1 y0 y1 y2 cd hr hd
          obtain ⟨k, hk, rfl, rfl, hd⟩ := hrel
          have hr := h.drawn hd.below
          obtain ⟨⟨x0, x1⟩, ⟨y0, y1, y2, -, -⟩, -⟩ := hr.cells
          have hcb := cntTo_le os ch (j : Nat) k
          by_cases hlk : k < on
          · obtain ⟨ad, rfl, cf, -⟩ := hr.f.reads.get hlk
            obtain ⟨a1, A1, n1, c1, rfl, co, hn1, hc1, hr1⟩ := hr.o.get hlk
            rw [offL_nth (by rw [hlo.out]; exact hlk)] at cf
            have hst := Lib.hid (cntTo_step os ch (j : Nat) k)
            cases ho : openB os ch k with
            | true =>
              have hz := offN_zero.2 ho
              rw [hz] at cf
              have hcall := l00Has_any A1 n1 c1 _ (j : Int) _ hr1 (by omega)
              rw [ho, Bool.and_true] at hst
              clear ho hz
              cases hm : memB (row os k) (j : Nat) with
              | true =>
                rw [hm, if_pos rfl] at hst
                go_wp2_with (go_at_call 39; refine hcall.mono ?_; rintro e w' ⟨rfl, rfl⟩; rw [tB_memB, hm])
                go_roundw
                case rel => exact ⟨k + 1, by omega, by go_num, by rw [hst.out]; simp, hd⟩
                case measure => simp [intOf]; omega
              | false =>
                rw [hm, if_neg (by simp)] at hst
                go_wp2_with (go_at_call 39; refine hcall.mono ?_; rintro e w' ⟨rfl, rfl⟩; rw [tB_memB, hm])
                go_roundw
                case rel => exact ⟨k + 1, by omega, by go_num, by rw [hst.out]; simp, hd⟩
                case measure => simp [intOf]; omega
            | false =>
              have hz : ((offN os ch k : Nat) : Int) ≠ 0 := fun e => by
                have := offN_zero.1 (Int.ofNat_eq_zero.1 e)
                rw [this] at ho; cases ho
              have hz' : (((offN os ch k : Nat) : Int) == 0) = false := by simpa using hz
              rw [ho, Bool.and_false, if_neg (by simp)] at hst
              generalize ((offN os ch k : Nat) : Int) = oz at *
              clear ho
              go_wp2
              go_roundw
              case rel => exact ⟨k + 1, by omega, by go_num, by rw [hst.out]; simp, hd⟩
              case measure => simp [intOf]; omega
          · obtain rfl : k = on := by omega
            have hall : cntTo os ch (j : Nat) k = (optsAt os ch (j : Nat)).length := by rw [← hlo.out]; exact cntTo_all _ _ _
            by_cases h1 : bestI os ch j < 0 ∨ ((cntTo os ch (j : Nat) k : Nat) : Int) < leastI os ch j
            · obtain ⟨e1, e2⟩ := best_take hc (by rw [← hall]; exact h1)
              rw [← hall] at e2
              have E1 := Lib.hid e1
              have E2 := Lib.hid e2
              clear e1 e2 hall
              generalize bestI os ch j = bi at *
              generalize leastI os ch j = li at *
              generalize ((cntTo os ch (j : Nat) k : Nat) : Int) = cn at *
              by_cases hb : bi < 0
              · go_wp2
                go_roundw
                case rel => exact ⟨j + 1, by omega, by go_num, by rw [E1.out], by rw [E2.out], hd⟩
                case measure => simp [intOf]; omega
              · have hl : cn < li := h1.resolve_left hb
                go_wp2
                go_roundw
                case rel => exact ⟨j + 1, by omega, by go_num, by rw [E1.out], by rw [E2.out], hd⟩
                case measure => simp [intOf]; omega
            · obtain ⟨e1, e2⟩ := best_keep hc (by rw [← hall]; exact h1)
              have E1 := Lib.hid e1
              have E2 := Lib.hid e2
              clear e1 e2 hall
              generalize bestI os ch j = bi at *
              generalize leastI os ch j = li at *
              generalize ((cntTo os ch (j : Nat) k : Nat) : Int) = cn at *
              have hb : ¬ bi < 0 := fun h => h1 (.inl h)
              have hl : ¬ cn < li := fun h => h1 (.inr h)
              clear h1
              go_wp2
              go_roundw
              case rel => exact ⟨j + 1, by omega, by go_num, by rw [E1.out], by rw [E2.out], hd⟩
              case measure => simp [intOf]; omega
    · obtain rfl : j = v := by omega
      go_wp2
      go_ret
      exact ⟨rfl, hd⟩
end Go.Proofs.Ytdcoppighkbofaa
/- Covers, the reference's marking. No condition beyond those stated. -/
namespace Go.Proofs.Ytdcoppighkbofaa
open Go.RowKit

def offF (n : Nat) (f : Nat → Int) : List Int := (List.range n).map f
theorem offF_len (n : Nat) (f : Nat → Int) : (offF n f).length = n := by simp [offF]
theorem offF_nth {n i : Nat} {f : Nat → Int} (h : i < n) : nth (offF n f) i = f i := by
  rw [nth_get (by rw [offF_len]; exact h)]
  simp [offF]
theorem offF_set {n i : Nat} {f : Nat → Int} (x : Int) : (offF n f).set i x = offF n (fun j => if j = i then x else f j) := by
  refine List.ext_getElem (by simp [offF]) fun j h1 h2 => ?_
  rw [List.getElem_set]
  simp only [offF, List.getElem_map, List.getElem_range]
  by_cases h : i = j
  · subst h; simp
  · rw [if_neg h, if_neg (fun e => h e.symm)]
theorem offF_congr {n : Nat} {f g : Nat → Int} (h : ∀ i, i < n → f i = g i) : offF n f = offF n g := List.map_congr_left fun i hi => h i (List.mem_range.1 hi)
theorem flags_set {n i : Nat} {f : Nat → Bool} (b : Bool) : (flags n f).set i (.bool b) = flags n (fun j => if j = i then b else f j) := by
  refine List.ext_getElem (by simp [flags]) fun j h1 h2 => ?_
  rw [List.getElem_set]
  simp only [flags, List.getElem_map, List.getElem_range]
  by_cases h : i = j
  · subst h; simp
  · rw [if_neg h, if_neg (fun e => h e.symm)]
theorem flags_congr {n : Nat} {f g : Nat → Bool} (h : ∀ i, i < n → f i = g i) : flags n f = flags n g := List.map_congr_left fun i hi => by rw [h i (List.mem_range.1 hi)]
theorem memB_take {l : List Int} {j : Nat} (h : j < l.length) (x : Int) : memB (l.take (j + 1)) x = (memB (l.take j) x || (nth l j == x)) := by
  unfold memB
  rw [List.take_succ_eq_append_getElem h, List.any_append, nth_get h]
  simp
/-- .. and what it found, each list's block another than the chosen ones' and the counts' -/
structure SCf (w0 w : World) (g gp : Nat) (v : Nat) (OA : Option Addr) (on oc : Nat) (os : List (List Int)) (D : Nat) (O : Option Addr) (fc : Nat) (C : Option Addr) (m mc : Nat) (FA : Option Addr) (fn fk : Nat) (count nodes budget most : Int) (dn : Nat → Bool) (off : List Int) (ch : List Nat) (vs : List Sl) (found : List (List Int)) : Prop where
  s : SCv w0 w g gp v OA on oc os D O fc C m mc FA fn fk count nodes budget most dn off ch
  r : ORv w (w0.heap.size + 1) 32 2 FA fn fk vs found
  ro : ∀ (j : Nat) (u : Sl), vs[j]? = some u → blk u.1 = none ∨ blk u.1 ≠ blk O
  rc : ∀ (j : Nat) (u : Sl), vs[j]? = some u → blk u.1 = none ∨ blk u.1 ≠ blk C
  co : blk C = none ∨ blk C ≠ blk O
section
variable {w0 w w' : World} {g gp v : Nat} {OA : Option Addr} {on oc : Nat} {os : List (List Int)} {D : Nat} {O : Option Addr} {fc : Nat} {C : Option Addr} {m mc : Nat} {FA : Option Addr} {fn fk : Nat} {count nodes budget most : Int} {dn dn' : Nat → Bool} {off off' : List Int} {ch : List Nat} {vs : List Sl} {found : List (List Int)}
theorem ne_of_none {a b : Option Nat} (h : a = none ∨ a ≠ b) (hb : b ≠ none) : a ≠ b := by
  rcases h with h | h
  · rw [h]; exact fun e => hb e.symm
  · exact h
theorem SCf.below (h : SCf w0 w g gp v OA on oc os D O fc C m mc FA fn fk count nodes budget most dn off ch vs found) (hb : Below w.heap.size w w') : SCf w0 w' g gp v OA on oc os D O fc C m mc FA fn fk count nodes budget most dn off ch vs found :=
  ⟨h.s.drawn hb, h.r.below hb, h.ro, h.rc, h.co⟩
/-- a flag is stored -/
theorem SCf.flag (h : SCf w0 w g gp v OA on oc os D O fc C m mc FA fn fk count nodes budget most dn off ch vs found) (i : Nat) (b : Bool) (he : ∀ x, x < v → dn' x = if x = i then b else dn x) :
    SCf w0 (w.setCell ⟨D, i, none⟩ (.bool b)) g gp v OA on oc os D O fc C m mc FA fn fk count nodes budget most dn' off ch vs found := by
  have hD : w0.heap.size + 1 ≤ D := (h.s.d.lt (show blk (some ⟨D, 0, none⟩) = some D from rfl)).1
  have hgl := h.s.gl
  have hpl := h.s.pl
  have hbool : ∀ {A : Option Addr} {n c : Nat} {xs : List Value} {sz : Nat} {e : TypeId}, OS w (w0.heap.size + 1) e sz A n c xs → e ≠ 4 → blk A ≠ some D := fun {A n c xs sz e} ho hne => ne_of_none (OS.typed ho h.s.d hne) (by simp [blk])
  refine ⟨⟨h.s.x.far (by show g ≠ D; omega) _, h.s.p.far (by show gp ≠ D; omega) _, h.s.b.setCell (Nat.le_of_succ_le hD) _, h.s.o0, hgl, hpl, ?_, ⟨h.s.f.os.setFar (hbool h.s.f.os (by decide)) _, h.s.f.all⟩, ⟨h.s.c.os.setFar (hbool h.s.c.os (by decide)) _, h.s.c.all⟩⟩,
    ⟨h.r.os.setFar (hbool h.r.os (by decide)) _, h.r.len, fun j u z hu hz => ⟨(h.r.rows j u z hu hz).os.setFar (hbool (h.r.rows j u z hu hz).os (by decide)) _, (h.r.rows j u z hu hz).all⟩, h.r.sep, h.r.ne⟩, h.ro, h.rc, h.co⟩
  have := h.s.d.set i (.bool b)
  rw [flags_set] at this
  rw [flags_congr he]
  exact this
/-- a count is stored -/
theorem SCf.cnt {gO : Nat} (h : SCf w0 w g gp v OA on oc os D (some ⟨gO, 0, none⟩) fc C m mc FA fn fk count nodes budget most dn off ch vs found) (i : Nat) (y : Int) (hy : I64 y) (he : off' = off.set i y) :
    SCf w0 (w.setCell ⟨gO, i, none⟩ (.int .i64 y)) g gp v OA on oc os D (some ⟨gO, 0, none⟩) fc C m mc FA fn fk count nodes budget most dn off' ch vs found := by
  have hO : w0.heap.size + 1 ≤ gO := (h.s.f.os.lt (show blk (some ⟨gO, 0, none⟩) = some gO from rfl)).1
  have hgl := h.s.gl
  have hpl := h.s.pl
  have hint : ∀ {A : Option Addr} {n c : Nat} {xs : List Value} {sz : Nat} {e : TypeId}, OS w (w0.heap.size + 1) e sz A n c xs → e ≠ 2 → blk A ≠ some gO := fun {A n c xs sz e} ho hne => ne_of_none (OS.typed ho h.s.f.os hne) (by simp [blk])
  have hC : blk C ≠ some gO := ne_of_none h.co (by simp [blk])
  have hR : ∀ (j : Nat) (u : Sl), vs[j]? = some u → blk u.1 ≠ some gO := fun j u hu => ne_of_none (h.ro j u hu) (by simp [blk])
  have e1 := h.s.x.far (p := ⟨gO, i, none⟩) (by show g ≠ gO; omega) (.int .i64 y)
  have e2 := h.s.p.far (p := ⟨gO, i, none⟩) (by show gp ≠ gO; omega) (.int .i64 y)
  have e3 := h.s.b.setCell (p := ⟨gO, i, none⟩) (Nat.le_of_succ_le hO) (.int .i64 y)
  have e4 := h.s.d.setFar (p := ⟨gO, i, none⟩) (hint h.s.d (by decide)) (.int .i64 y)
  have e5 := h.s.f.set i hy
  rw [← he] at e5
  have e6 := h.s.c.os.setFar (p := ⟨gO, i, none⟩) hC (.int .i64 y)
  have e7 := h.r.os.setFar (p := ⟨gO, i, none⟩) (hint h.r.os (by decide)) (.int .i64 y)
  exact ⟨⟨e1, e2, e3, h.s.o0, hgl, hpl, e4, e5, ⟨e6, h.s.c.all⟩⟩,
    ⟨e7, h.r.len, fun j u z hu hz => ⟨(h.r.rows j u z hu hz).os.setFar (p := ⟨gO, i, none⟩) (hR j u hu) (.int .i64 y), (h.r.rows j u z hu hz).all⟩, h.r.sep, h.r.ne⟩, h.ro, h.rc, h.co⟩
end
theorem row_in {v : Nat} {os : List (List Int)} (h : Cover (v : Int) os) {k j : Nat} (hk : k < os.length) (hj : j < (row os k).length) : ∃ y : Nat, nth (row os k) j = (y : Int) ∧ y < v := by
  have := (h.blk k hk).2.bd j hj
  exact ⟨(nth (row os k) j).toNat, by omega, by omega⟩
set_option maxRecDepth 100000 in
set_option maxHeartbeats 2000000 in
theorem mark_any (w0 w : World) (g gp v : Nat) (OA : Option Addr) (on oc : Nat) (os : List (List Int)) (D : Nat) (O : Option Addr) (fc : Nat) (C : Option Addr) (m mc : Nat) (FA : Option Addr) (fn fk : Nat) (count nodes budget most : Int) (dn : Nat → Bool) (f : Nat → Int) (ch : List Nat) (vs : List Sl) (found : List (List Int)) (k : Nat) (by_ : Int)
    (h : SCf w0 w g gp v OA on oc os D O fc C m mc FA fn fk count nodes budget most dn (offF on f) ch vs found) (hC : Cover (v : Int) os) (hk : k < on) (hby : by_ = 1 ∨ by_ = -1) (hf : ∀ i, -100000 ≤ f i ∧ f i ≤ 100000) :
    Calls Try.prog 40 #[.pointer (some ⟨g, 0, none⟩), .int .i64 k, .int .i64 by_] w (fun e w' => e = .returned (.tuple #[]) ∧ SCf w0 w' g gp v OA on oc os D O fc C m mc FA fn fk count nodes budget most (fun x => if memB (row os k) (x : Nat) then decide (0 < by_) else dn x) (offF on (fun i => f i + if meetB os i k then by_ else 0)) ch vs found) := by
  have hlo := Lib.hid h.s.o0.len
  have HC := Lib.hid hC
  have hon : on ≤ 256 := by have := hC.len; have := hlo.out; omega
  have hv : v ≤ 64 := by have := hC.v2; omega
  obtain ⟨⟨x0, x1⟩, ⟨y0, y1, y2, -, -⟩, -⟩ := h.s.cells
  obtain ⟨a1, A1, n1, c1, rfl, co0, hn1, hc1, r0⟩ := h.s.o0.get hk
  have co := below_cell h.s.b co0
  have hl1 := Lib.hid r0.len
  clear hC
  go_enter Try.func40, Try.ntmps40
  go_wp2
  go_loopw [7] (fun i wr => ∃ j : Nat, j ≤ n1 ∧ i = .int .i64 j ∧ SCf w0 wr g gp v (some a1) on oc os D O fc C m mc FA fn fk count nodes budget most (fun x => if memB ((row os k).take j) (x : Nat) then decide (0 < by_) else dn x) (offF on f) ch vs found) (fun i _ => n1 - (intOf i).toNat)
  case atStart => exact ⟨0, Nat.zero_le _, rfl, by simpa [memB] using h⟩
  case round =>
    obtain ⟨j, hj, rfl, hr⟩ := hrel
    clear x0 x1 y0 y1 y2 co
    obtain ⟨⟨x0, x1⟩, ⟨y0, y1, y2, -, -⟩, -⟩ := hr.s.cells
    have co := below_cell hr.s.b co0
    by_cases hlt : j < n1
    · obtain ⟨y, hy, hyv⟩ := row_in HC.out (k := k) (by rw [hlo.out]; exact hk) (j := j) (by rw [hl1.out]; exact hlt)
      obtain ⟨ad, rfl, cx, -⟩ := (r0.keep hr.s.b).get hlt
      rw [hy] at cx
      obtain ⟨gd, had, cd, cdf⟩ := hr.s.d.cell (flags_at hyv)
      cases had
      have HN := Lib.hid (hr.flag y (decide (0 < by_)) (dn' := fun x => if memB ((row os k).take (j + 1)) (x : Nat) then decide (0 < by_) else dn x) (fun x hx => by
        rw [memB_take (by rw [hl1.out]; exact hlt), hy]
        by_cases h1 : x = y
        · subst h1; simp
        · have h2 : (((y : Nat) : Int) == (x : Int)) = false := by simp; omega
          rw [h2, Bool.or_false, if_neg h1]))
      generalize (if memB ((row os k).take j) (y : Nat) then decide (0 < by_) else dn y) = old at *
      go_wp2
      refine region_last (P := Try.prog) (S := (fun w' => w'.cell? ⟨g, 1, none⟩ = some (.slice (some ⟨D, 0, none⟩) v v) ∧ w'.cell? (ad.add j) = some (.int .i64 (y : Int)))) (by kernel_rfl) (by simp only [List.getLast?_cons_cons, List.getLast?_singleton]; rfl) (by dsimp only [List.dropLast]) (by kernel_rfl) ?_ ?_
      · exact ⟨by simpa using y1, by simpa using cx⟩
      intro hS
      refine wpAnyH_take (i := 0) (v := ?_) rfl (by kernel_rfl) (by kernel_rfl) (by kernel_rfl) (fun _ _ _ h => h) (Or.inl ⟨by rfl, ?_⟩) (by assumption) ?_
      rotate_left
      · (intro w hSw; (try dsimp only at hSw); go_simp; (try with_reducible rfl))
      simp only [Act.put, List.setIfInBounds_toArray, List.set_cons_zero, List.set_cons_succ]
      refine wpAnyH_take (i := 1) (v := ?_) rfl (by kernel_rfl) (by kernel_rfl) (by kernel_rfl) (fun _ _ _ h => h) (Or.inl ⟨by rfl, ?_⟩) (by assumption) ?_
      rotate_left
      · (intro w hSw; (try dsimp only at hSw); go_simp; (try with_reducible rfl))
      simp only [Act.put, List.setIfInBounds_toArray, List.set_cons_zero, List.set_cons_succ]
      refine wpAnyH_take (i := 2) (v := ?_) rfl (by kernel_rfl) (by kernel_rfl) (by kernel_rfl) (fun _ _ _ h => h) (Or.inl ⟨by rfl, ?_⟩) (by assumption) ?_
      rotate_left
      · (intro w hSw; (try dsimp only at hSw); go_simp; (try with_reducible rfl))
      simp only [Act.put, List.setIfInBounds_toArray, List.set_cons_zero, List.set_cons_succ]
      refine wpAnyH_take (i := 3) (v := ?_) rfl (by kernel_rfl) (by kernel_rfl) (by kernel_rfl) (fun _ _ _ h => h) (Or.inl ⟨by rfl, ?_⟩) (by assumption) ?_
      rotate_left
      · (intro w hSw; (try dsimp only at hSw); go_simp; (try with_reducible rfl))
      simp only [Act.put, List.setIfInBounds_toArray, List.set_cons_zero, List.set_cons_succ]
      refine wpAnyH_take (i := 4) (v := ?_) rfl (by kernel_rfl) (by kernel_rfl) (by kernel_rfl) (fun _ _ _ h => h) (Or.inl ⟨by rfl, ?_⟩) (by assumption) ?_
      rotate_left
      · (intro w hSw; (try dsimp only at hSw); go_simp; (try with_reducible rfl))
      simp only [Act.put, List.setIfInBounds_toArray, List.set_cons_zero, List.set_cons_succ]
      refine wpAnyH_take (i := 5) (v := ?_) rfl (by kernel_rfl) (by kernel_rfl) (by kernel_rfl) (fun _ _ _ h => h) (Or.inl ⟨by rfl, ?_⟩) (by assumption) ?_
      rotate_left
      · (intro w hSw; (try dsimp only at hSw); go_simp; (try with_reducible rfl))
      simp only [Act.put, List.setIfInBounds_toArray, List.set_cons_zero, List.set_cons_succ]
      refine wpAnyH_take (i := 6) (v := ?_) rfl (by kernel_rfl) (by kernel_rfl) (by kernel_rfl) (fun _ _ _ h => h) (Or.inl ⟨by rfl, ?_⟩) (by assumption) ?_
      rotate_left
      · (intro w hSw; (try dsimp only at hSw); go_simp; (try with_reducible rfl))
      simp only [Act.put, List.setIfInBounds_toArray, List.set_cons_zero, List.set_cons_succ]
      refine wpAnyH_take (i := 7) (v := ?_) rfl (by kernel_rfl) (by kernel_rfl) (by kernel_rfl) (fun _ _ _ h => h) (Or.inl ⟨by rfl, ?_⟩) (by assumption) ?_
      rotate_left
      · (intro w hSw; (try dsimp only at hSw); go_simp; (try with_reducible rfl))
      simp only [Act.put, List.setIfInBounds_toArray, List.set_cons_zero, List.set_cons_succ]
      refine wpAnyH_take (i := 8) (v := ?_) rfl (by kernel_rfl) (by kernel_rfl) (by kernel_rfl) (fun _ _ _ h => h) (Or.inl ⟨by rfl, ?_⟩) (by assumption) ?_
      rotate_left
      · (intro w hSw; (try dsimp only at hSw); go_simp; (try with_reducible rfl))
      simp only [Act.put, List.setIfInBounds_toArray, List.set_cons_zero, List.set_cons_succ]
      refine wpAnyH_take (i := 9) (v := ?_) rfl (by kernel_rfl) (by kernel_rfl) (by kernel_rfl) (fun _ _ _ h => h) (Or.inl ⟨by rfl, ?_⟩) (by assumption) ?_
      rotate_left
      · (intro w hSw; (try dsimp only at hSw); go_simp; (try with_reducible rfl))
      simp only [Act.put, List.setIfInBounds_toArray, List.set_cons_zero, List.set_cons_succ]
      refine wpAnyH_take (i := 10) (v := ?_) rfl (by kernel_rfl) (by kernel_rfl) (by kernel_rfl) (fun _ _ _ h => h) (Or.inl ⟨by rfl, ?_⟩) (by assumption) ?_
      rotate_left
      · (intro w hSw; (try dsimp only at hSw); go_simp; (try with_reducible rfl))
      simp only [Act.put, List.setIfInBounds_toArray, List.set_cons_zero, List.set_cons_succ]
      refine wpAnyH_done (by kernel_rfl) ?_ _
      dsimp only [atEnd]
      clear hS
      go_wp2
      go_roundw
      case rel => exact ⟨j + 1, by omega, by go_num, HN.out.below (below_drewn _ 1)⟩
      case measure => simp [intOf]; omega
    · obtain rfl : j = n1 := by omega
      rw [List.take_of_length_le (by rw [hl1.out]; exact Nat.le_refl _)] at hr
      go_wp2
      clear x0 x1 y0 y1 y2 co
      go_loopw [8] (fun i wr => ∃ j : Nat, j ≤ on ∧ i = .int .i64 j ∧ SCf w0 wr g gp v (some a1) on oc os D O fc C m mc FA fn fk count nodes budget most (fun x => if memB (row os k) (x : Nat) then decide (0 < by_) else dn x) (offF on (fun i => if i < j then f i + (if meetB os i k then by_ else 0) else f i)) ch vs found) (fun i _ => on - (intOf i).toNat)
      case atStart => exact ⟨0, Nat.zero_le _, rfl, by simpa using hr⟩
      case round =>
        clear hr
        obtain ⟨i, hi, rfl, hr⟩ := hrel
        obtain ⟨⟨x0, x1⟩, ⟨y0, y1, y2, -, -⟩, -⟩ := hr.s.cells
        by_cases hlo2 : i < on
        · obtain ⟨a2, A2, n2, c2, ha2, ci0, hn2, hc2, ri0⟩ := h.s.o0.get hlo2
          cases ha2
          have ci := below_cell hr.s.b ci0
          have hmt := l24Meets_any A2 A1 n2 c2 j c1 _ _ wr (ri0.keep hr.s.b) (r0.keep hr.s.b) (by omega) (by omega)
          obtain ⟨gO, hO, cO, fO⟩ := hr.s.f.cell hlo2
          subst hO
          rw [offF_nth hlo2, if_neg (by omega)] at cO
          have hfi := hf i
          cases hm : meetB os i k with
          | true =>
            rw [show meetL (row os i) (row os k) = true from hm] at hmt
            have HM := Lib.hid hm
            clear hm
            have hI : I64 (f i + by_) := by unfold I64; rcases hby with rfl | rfl <;> omega
            have HI := Lib.hid hI
            clear hI
            go_wp2_with fail
            refine hmt.mono ?_
            rintro e w2 ⟨rfl, hd2⟩
            have hr2 := hr.below hd2.below
            have HN := Lib.hid (hr2.cnt i (f i + by_) HI.out (off' := offF on (fun q => if q < i + 1 then f q + (if meetB os q k then by_ else 0) else f q)) (by
              rw [offF_set]
              refine offF_congr fun q hq => ?_
              by_cases h1 : q = i
              · subst h1; rw [if_pos (by omega), HM.out, if_pos rfl, if_pos rfl]
              · rw [if_neg h1]
                by_cases h2 : q < i
                · rw [if_pos (by omega), if_pos h2]
                · rw [if_neg (by omega), if_neg (by omega)]))
            clear hmt x0 x1 y0 y1 y2 ci
            obtain ⟨⟨x0, x1⟩, ⟨y0, y1, y2, -, -⟩, -⟩ := hr2.s.cells
            have cO2 := below_cell hd2.below cO
            have fO2 : w2.frozen? ⟨gO, i, none⟩ = false := by
              obtain ⟨gO', hO', -, fO', -⟩ := hr2.s.f.cell hlo2
              cases hO'; exact fO'
            clear hr hr2
            go_wp2
            go_roundw
            case rel => exact ⟨i + 1, by omega, by go_num, HN.out⟩
            case measure => simp [intOf]; omega
          | false =>
            rw [show meetL (row os i) (row os k) = false from hm] at hmt
            have HN := Lib.hid (show offF on (fun q => if q < i then f q + (if meetB os q k then by_ else 0) else f q) = offF on (fun q => if q < i + 1 then f q + (if meetB os q k then by_ else 0) else f q) from offF_congr fun q hq => by
              by_cases h1 : q = i
              · subst h1; rw [if_neg (by omega), if_pos (by omega), hm, if_neg (by simp)]; omega
              · by_cases h2 : q < i
                · rw [if_pos (by omega), if_pos (show q < i + 1 by omega)]
                · rw [if_neg (by omega), if_neg (show ¬ q < i + 1 by omega)])
            clear hm
            rw [HN.out] at hr
            go_wp2_with fail
            refine hmt.mono ?_
            rintro e w2 ⟨rfl, hd2⟩
            have hr2 := hr.below hd2.below
            clear hmt
            go_wp2
            go_roundw
            case rel => exact ⟨i + 1, by omega, by go_num, hr2⟩
            case measure => simp [intOf]; omega
        · obtain rfl : i = on := by omega
          rw [offF_congr (g := fun i => f i + (if meetB os i k then by_ else 0)) (fun q hq => by rw [if_pos hq])] at hr
          go_wp2
          go_end0
          exact ⟨rfl, hr⟩
end Go.Proofs.Ytdcoppighkbofaa
