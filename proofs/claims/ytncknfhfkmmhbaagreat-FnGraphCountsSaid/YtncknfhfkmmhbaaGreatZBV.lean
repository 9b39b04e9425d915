/- The law FnGraphCounts: for every input it returns true. No condition beyond those stated. -/
import Derived.Test.YtncknfhfkmmhbaaGreatZAD
import Derived.Test.YtncknfhfkmmhbaaGreatZAX
import Derived.Test.YtncknfhfkmmhbaaGreatZBU
set_option linter.unusedVariables false
set_option linter.unusedSimpArgs false
namespace Go.Proofs.YtncknfhfkmmhbaaGreat
open Go.RowKit

/-- what the law asks of the graphs with n vertices -/
structure GenOk (n T : Nat) : Prop where
  le : T ≤ 11
  lev : LevOk n T
  cnt : cntN n = (gsP n T).length
  pos : 1 ≤ cntN n
  bd : cntN n ≤ 1000
  iso : ∀ (i k : Nat) (bs cs : List (List Int)), (gsP n T)[i]? = some bs → (gsP n T)[k]? = some cs → code2P (List.replicate n 0) (edL bs) (List.replicate n 0) (edL cs) 20000 = 0 ∧ isoP (List.replicate n 0) (edL bs) (List.replicate n 0) (edL cs) 20000 = decide (i = k)
set_option maxRecDepth 100000 in
set_option maxHeartbeats 4000000 in
theorem law_GraphCounts_at (HG : ∀ n, 1 ≤ n → n ≤ 5 → ∃ T, GenOk n T) (A0 : Option Addr) (n0 c0 : Nat) (bs : List Int) (A1 : Option Addr) (n1 c1 : Nat) (ys : List Int) (w : World) (ha : RS EByte w A0 n0 bs) (hn0 : n0 ≤ 1048576) (hb : RS EByte w A1 n1 ys) (hn1 : n1 ≤ 1048576) :
    Calls Tryz.prog 3 #[.slice A0 n0 c0, .slice A1 n1 c1] w fun e w' => e = .returned (.bool true) ∧ Below w.heap.size w w' := by
  have HGG := Lib.hid HG
  clear HG
  go_enter Tryz.func3, Tryz.ntmps3
  go_wp2_with fail
  refine (b10Long_no A0 n0 c0 _ hn0).mono ?_
  rintro e w' ⟨rfl, rfl⟩
  go_wp2_with fail
  refine (b10Long_no A1 n1 c1 _ hn1).mono ?_
  rintro e w' ⟨rfl, rfl⟩
  go_wp2_with fail
  refine (drawGenerate_any A0 n0 c0 bs w ha (by omega)).mono ?_
  rintro e w1 ⟨n, rfl, hn6, hb1⟩
  by_cases hr : 1 ≤ n ∧ n ≤ 5
  · obtain ⟨hr1, hr5⟩ := hr
    obtain ⟨T, hG⟩ := HGG.out n hr1 hr5
    have hgen := generateGraphs_any n T w1 hr1 hr5 hG.le hG.lev
    have hlen := hG.cnt
    have hpos := hG.pos
    have hbd := hG.bd
    have HI := Lib.hid hG.iso
    clear hG ha
    go_wp2_with fail
    refine hgen.mono ?_
    rintro e w2 ⟨A, k, c, rfl, ⟨vs, hsg⟩, hb2⟩
    have hw2 := below_then hb1 hb2
    have hcnt := countGraphs_any n w2 hr1 (by omega)
    have hgl := hsg.slen
    rw [← hlen] at hgl
    generalize cntN n = C at *
    subst hgl
    have HSG := Lib.hid hsg
    clear hsg hlen
    go_wp2_with fail
    refine hcnt.mono ?_
    rintro e w3 ⟨rfl, hb3⟩
    have hw3 := below_then hw2 hb3
    have HSG3 := Lib.hid (HSG.out.below hb3)
    have hbm := EBytes.keep hb hw3
    have hc1 : ¬ (C : Int) < 1 := by omega
    have q0 := b10At_any A1 n1 c1 ys 0 C w3 hbm (by omega) (by omega) (by omega)
    have q1 := b10At_any A1 n1 c1 ys 1 C w3 hbm (by omega) (by omega) (by omega)
    obtain ⟨x0, x1⟩ := atP_bd (zs := ys) (i := ((0 : Nat) : Int)) (k := (C : Int)) (by omega)
    obtain ⟨y0, y1⟩ := atP_bd (zs := ys) (i := ((1 : Nat) : Int)) (k := (C : Int)) (by omega)
    generalize atP ys ((0 : Nat) : Int) C = x at *
    generalize atP ys ((1 : Nat) : Int) C = y at *
    obtain ⟨i, rfl⟩ := Int.eq_ofNat_of_zero_le x0
    obtain ⟨j, rfl⟩ := Int.eq_ofNat_of_zero_le y0
    have Q0 := Lib.hid q0
    have Q1 := Lib.hid q1
    have hij : decide ((i : Int) = (j : Int)) = decide (i = j) := decide_eq_decide.2 (by omega)
    obtain ⟨g, v, b1, rfl, ci1, ci2, hi, hv⟩ := HSG3.out.at_ (j := i) (by omega)
    obtain ⟨g', u, b2, e, cj1, cj2, hj, hu⟩ := HSG3.out.at_ (j := j) (by omega)
    injection e with e
    injection e with e
    subst e
    obtain ⟨I1, I2⟩ := HI.out i j b1 b2 hi hj
    obtain ⟨⟨V1, vn, vc⟩, V2, vm, vd⟩ := v
    obtain ⟨⟨U1, un, uc⟩, U2, um, ud⟩ := u
    have hcap1 := hv.c1
    have hcap2 := hv.c2
    have hcap3 := hu.c1
    have hcap4 := hu.c2
    simp only at hcap1 hcap2 hcap3 hcap4 ci1 ci2 cj1 cj2
    have hIs := fun W (h : Below w3.heap.size w3 W) => impl_IsomorphicGraphs V1 vn vc V2 vm vd (List.replicate n 0) (edL b1) U1 un uc U2 um ud (List.replicate n 0) (edL b2) 20000 W (hv.rg.keep h) (hu.rg.keep h) (by omega) (by omega) (by omega) (by omega)
    rw [I1, I2] at hIs
    have HIS := Lib.hid hIs
    clear hIs I1 I2 hi hj hv hu hcnt hb1 hb2 hb3 hw2 hb q0 q1 hcap1 hcap2 hcap3 hcap4
    go_wp2_with fail
    refine Q0.out.mono ?_
    rintro e w' ⟨rfl, rfl⟩
    go_wp2_with fail
    refine Q1.out.mono ?_
    rintro e w' ⟨rfl, rfl⟩
    go_wp2
    go_region_held_law (fun w' => Below w3.heap.size w3 w' ∧ w'.cell? ⟨g, i * 2, none⟩ = some (.slice V1 vn vc) ∧ w'.cell? ⟨g, i * 2 + 1, none⟩ = some (.slice V2 vm vd) ∧ w'.cell? ⟨g, j * 2, none⟩ = some (.slice U1 un uc) ∧ w'.cell? ⟨g, j * 2 + 1, none⟩ = some (.slice U2 um ud))
      (first | exact keep4 (below_drewn _ 1) ci1 ci2 cj1 cj2 | exact keep4 (by assumption) ci1 ci2 cj1 cj2)
      (first | (go_at_call 9; (with_reducible refine (HIS.out _ ?_).mono ?_); (exact below_drewn _ 1); rintro e w4 ⟨rfl, hb4⟩; have hX4 : Below w3.heap.size w3 w4 := (below_drewn _ 1).trans (hb4.mono (Nat.le_refl _))))
    have HW := Lib.hid (hw3.trans (hX4.mono hw3.size))
    have hbe : ((i : Int) == (j : Int)) = decide (i = j) := by rw [Bool.eq_iff_iff]; simp; omega
    go_wp2
    go_ret
    exact ⟨rfl, HW.out⟩
  · have hr' : n = 0 ∨ n = 6 := by omega
    rcases hr' with rfl | rfl
    · have hgen := generateGraphs_no 0 w1 (by omega)
      have hcnt := countGraphs_no 0 w1 (by omega)
      go_wp2_with fail
      refine hgen.mono ?_
      rintro e w2 ⟨rfl, rfl⟩
      go_wp2_with fail
      refine hcnt.mono ?_
      rintro e w3 ⟨rfl, rfl⟩
      go_wp2
      go_ret
      exact ⟨rfl, hb1⟩
    · have hgen := generateGraphs_no 6 w1 (by omega)
      have hcnt := countGraphs_any 6 w1 (by omega) (by omega)
      generalize cntN 6 = C6 at *
      go_wp2_with fail
      refine hgen.mono ?_
      rintro e w2 ⟨rfl, rfl⟩
      go_wp2_with fail
      refine hcnt.mono ?_
      rintro e w3 ⟨rfl, hb3⟩
      have HW := Lib.hid (below_then hb1 hb3)
      go_wp2
      go_ret
      exact ⟨rfl, HW.out⟩
end Go.Proofs.YtncknfhfkmmhbaaGreat
/- The levels of graphs, by the kernel: sorting turned into insertion. No condition beyond those stated. -/
namespace Go.Proofs.YtncknfhfkmmhbaaGreat
open Go.RowKit

def insIG (x : Int) : List Int → List Int
  | [] => [x]
  | y :: ys => if x ≤ y then x :: y :: ys else y :: insIG x ys
def isortIG : List Int → List Int
  | [] => []
  | x :: xs => insIG x (isortIG xs)
theorem insIG_perm (x : Int) (l : List Int) : (insIG x l).Perm (x :: l) := by
  induction l with
  | nil => exact List.Perm.refl _
  | cons y ys ih =>
    unfold insIG
    split
    · exact List.Perm.refl _
    · exact (ih.cons y).trans (List.Perm.swap x y ys)
theorem isortIG_perm (l : List Int) : (isortIG l).Perm l := by
  induction l with
  | nil => exact List.Perm.refl _
  | cons x xs ih => exact (insIG_perm x _).trans (ih.cons x)
theorem insIG_sorted (x : Int) {l : List Int} (h : l.Pairwise (· ≤ ·)) : (insIG x l).Pairwise (· ≤ ·) := by
  induction l with
  | nil => simp [insIG]
  | cons y ys ih =>
    unfold insIG
    split
    · rename_i hxy
      refine List.pairwise_cons.2 ⟨fun z hz => ?_, h⟩
      rcases List.mem_cons.1 hz with rfl | hz
      · exact hxy
      · exact Int.le_trans hxy ((List.pairwise_cons.1 h).1 z hz)
    · refine List.pairwise_cons.2 ⟨fun z hz => ?_, ih (List.pairwise_cons.1 h).2⟩
      rcases List.mem_cons.1 ((insIG_perm x ys).mem_iff.1 hz) with rfl | hz
      · omega
      · exact (List.pairwise_cons.1 h).1 z hz
theorem isortIG_sorted (l : List Int) : (isortIG l).Pairwise (· ≤ ·) := by
  induction l with
  | nil => exact List.Pairwise.nil
  | cons x xs ih => exact insIG_sorted x ih
theorem srt_isortG (l : List Int) : srt l = isortIG l :=
  ((srt_perm l).trans (isortIG_perm l).symm).eq_of_pairwise (fun a b _ _ h1 h2 => Int.le_antisymm h1 h2) (srt_le l) (isortIG_sorted l)
def insRG (x : List Int) : List (List Int) → List (List Int)
  | [] => [x]
  | y :: ys => if cmpL x y ≤ 0 then x :: y :: ys else y :: insRG x ys
def isortRG : List (List Int) → List (List Int)
  | [] => []
  | x :: xs => insRG x (isortRG xs)
theorem insRG_perm (x : List Int) (l : List (List Int)) : (insRG x l).Perm (x :: l) := by
  induction l with
  | nil => exact List.Perm.refl _
  | cons y ys ih =>
    unfold insRG
    split
    · exact List.Perm.refl _
    · exact (ih.cons y).trans (List.Perm.swap x y ys)
theorem isortRG_perm (l : List (List Int)) : (isortRG l).Perm l := by
  induction l with
  | nil => exact List.Perm.refl _
  | cons x xs ih => exact (insRG_perm x _).trans (ih.cons x)
theorem insRG_sorted (x : List Int) {l : List (List Int)} (h : SortedL cmpL l) : SortedL cmpL (insRG x l) := by
  induction l with
  | nil => exact List.pairwise_singleton _ _
  | cons y ys ih =>
    unfold insRG
    split
    · rename_i hxy
      refine List.pairwise_cons.2 ⟨fun z hz => ?_, h⟩
      rcases List.mem_cons.1 hz with rfl | hz
      · exact hxy
      · exact cmpL_ord.trans hxy ((List.pairwise_cons.1 h).1 z hz)
    · rename_i hxy
      refine List.pairwise_cons.2 ⟨fun z hz => ?_, ih (List.pairwise_cons.1 h).2⟩
      rcases List.mem_cons.1 ((insRG_perm x ys).mem_iff.1 hz) with rfl | hz
      · have := cmpL_swap z y; omega
      · exact (List.pairwise_cons.1 h).1 z hz
theorem isortRG_sorted (l : List (List Int)) : SortedL cmpL (isortRG l) := by
  induction l with
  | nil => exact List.Pairwise.nil
  | cons x xs ih => exact insRG_sorted x ih
theorem srtR_isortG (l : List (List Int)) : srtR l = isortRG l := (srtR_unique (isortRG_perm l) (isortRG_sorted l)).symm
/-- translates and multiples, computed -/
def insSG (x : List (List Int)) : List (List (List Int)) → List (List (List Int))
  | [] => [x]
  | y :: ys => if cmpS x y ≤ 0 then x :: y :: ys else y :: insSG x ys
def isortSG : List (List (List Int)) → List (List (List Int))
  | [] => []
  | x :: xs => insSG x (isortSG xs)
theorem insSG_perm (x : List (List Int)) (l : List (List (List Int))) : (insSG x l).Perm (x :: l) := by
  induction l with
  | nil => exact List.Perm.refl _
  | cons y ys ih =>
    unfold insSG
    split
    · exact List.Perm.refl _
    · exact (ih.cons y).trans (List.Perm.swap x y ys)
theorem isortSG_perm (l : List (List (List Int))) : (isortSG l).Perm l := by
  induction l with
  | nil => exact List.Perm.refl _
  | cons x xs ih => exact (insSG_perm x _).trans (ih.cons x)
theorem insSG_sorted (x : List (List Int)) {l : List (List (List Int))} (h : SortedL cmpS l) : SortedL cmpS (insSG x l) := by
  induction l with
  | nil => exact List.pairwise_singleton _ _
  | cons y ys ih =>
    unfold insSG
    split
    · rename_i hxy
      refine List.pairwise_cons.2 ⟨fun z hz => ?_, h⟩
      rcases List.mem_cons.1 hz with rfl | hz
      · exact hxy
      · exact cmpS_ord.trans hxy ((List.pairwise_cons.1 h).1 z hz)
    · rename_i hxy
      refine List.pairwise_cons.2 ⟨fun z hz => ?_, ih (List.pairwise_cons.1 h).2⟩
      rcases List.mem_cons.1 ((insSG_perm x ys).mem_iff.1 hz) with rfl | hz
      · have := cmpS_swap z y; omega
      · exact (List.pairwise_cons.1 h).1 z hz
theorem isortSG_sorted (l : List (List (List Int))) : SortedL cmpS (isortSG l) := by
  induction l with
  | nil => exact List.Pairwise.nil
  | cons x xs ih => exact insSG_sorted x ih
theorem srtS_isortG (l : List (List (List Int))) : srtS l = isortSG l := (srtS_unique (isortSG_perm l) (isortSG_sorted l)).symm
/-- translates and multiples, computed -/

def imgF (p s : List Int) : List Int := isortIG (s.map fun x => nth p x.toNat)
def sysF (p : List Int) (bs : List (List Int)) : List (List Int) := isortRG (bs.map (imgF p))
theorem sysF_eq (p : List Int) (bs : List (List Int)) : sysI p bs = sysF p bs := by
  unfold sysI sysF
  rw [srtR_isortG]
  congr 2
  funext s
  unfold imgS imgF
  rw [srt_isortG]
def leastF (bs : List (List Int)) : List (List Int) → List (List Int) → List (List Int)
  | [], b => b
  | p :: ps, b => leastF bs ps (if cmpS (sysF p bs) b < 0 then sysF p bs else b)
theorem leastF_snoc (bs : List (List Int)) (p : List Int) : ∀ (ps : List (List Int)) (b : List (List Int)), leastF bs (ps ++ [p]) b = if cmpS (sysF p bs) (leastF bs ps b) < 0 then sysF p bs else leastF bs ps b := by
  intro ps
  induction ps with
  | nil => intro b; rfl
  | cons q ps ih => intro b; exact ih _
theorem leastF_eq (ps bs : List (List Int)) : ∀ k, k ≤ ps.length → leastS ps bs k = leastF bs (ps.take k) bs := by
  intro k
  induction k with
  | zero => intro _; rfl
  | succ k ih =>
    intro h
    rw [List.take_succ_eq_append_getElem (by omega), leastF_snoc, ← ih (by omega), leastS, row_get (by omega), sysF_eq]
def moreF (ps bs : List (List Int)) (s : List Int) : List (List Int) := leastF (isortRG (bs ++ [s])) ps (isortRG (bs ++ [s]))
def extdF (n : Nat) (ps : List (List Int)) (L : List (List (List Int))) : List (List (List Int)) := comp (isortSG (L.flatMap fun bs => (extP n bs (pairsL n)).map (moreF ps bs)))
theorem extdF_eq (n : Nat) (L : List (List (List Int))) : extdP n L = extdF n (permK n (factN n)) L := by
  unfold extdP extdF
  rw [srtS_isortG]
  congr 2
  congr 1
  funext bs
  unfold nextP
  congr 1
  funext s
  unfold moreP moreF
  rw [leastF_eq _ _ _ (by rw [permK_len]; exact Nat.le_refl _), List.take_of_length_le (by rw [permK_len]; exact Nat.le_refl _), srtR_isortG]
/-! the search, with sorting turned into insertion -/
def keyN (near : List (List Int)) (cells : List Int) (v : Nat) : List Int := nth cells v :: isortIG ((row near v).map fun w => nth cells w.toNat)
def keysN (near : List (List Int)) (cells : List Int) : List (List Int) := (List.range cells.length).map (keyN near cells)
def kindsN (near : List (List Int)) (cells : List Int) : List (List Int) := setG cmpL (keysN near cells)
def roundN (near : List (List Int)) (cells : List Int) : List Int := (keysN near cells).map fun k => (idxG cmpL (kindsN near cells) k : Int)
def refNF (near : List (List Int)) : Nat → List Int → List Int
  | 0, cells => roundN near cells
  | f + 1, cells => if manyP (roundN near cells) = manyP cells then roundN near cells else refNF near f (roundN near cells)
def refN (near : List (List Int)) (cells : List Int) : List Int := refNF near cells.length cells
def loopN (near : List (List Int)) (sub : St → List Int → St) (cells : List Int) : List Int → St → St
  | [], s => s
  | v :: r, s => if s.spent then s else if s.left = 0 then { s with spent := true } else loopN near sub cells r (sub { s with left := s.left - 1, nodes := s.nodes + 1 } (refN near (splitP cells v.toNat)))
def searchN (cs : List Int) (es : List Ed) (near : List (List Int)) : Nat → St → List Int → St
  | 0, s, cells => if tgtP cells < 0 then leafP cs es s cells else loopN near (fun s _ => s) cells (vertsP cells (tgtP cells)) s
  | f + 1, s, cells => if tgtP cells < 0 then leafP cs es s cells else loopN near (searchN cs es near f) cells (vertsP cells (tgtP cells)) s
def runN (cs : List Int) (es : List Ed) (budget : Nat) : St := searchN cs es (nearP cs.length es) budget ⟨budget, false, 0, 0, [], [], []⟩ (refN (nearP cs.length es) cs)
theorem keyN_eq (near : List (List Int)) (cells : List Int) : keyP near cells = keyN near cells := by
  funext v
  unfold keyP keyN
  rw [srt_isortG]
theorem roundN_eq (near : List (List Int)) (cells : List Int) : roundP near cells = roundN near cells := by
  unfold roundP roundN kindsP kindsN keysP keysN
  rw [keyN_eq]
theorem refNF_eq (near : List (List Int)) : ∀ (f : Nat) (cells : List Int), refF near f cells = refNF near f cells := by
  intro f
  induction f with
  | zero => intro cells; exact roundN_eq near cells
  | succ f ih =>
    intro cells
    unfold refF refNF
    rw [roundN_eq, ih]
theorem refN_eq (near : List (List Int)) (cells : List Int) : refP near cells = refN near cells := refNF_eq near _ cells
theorem loopN_eq (near : List (List Int)) {sub sub' : St → List Int → St} (h : ∀ s c, sub s c = sub' s c) (cells : List Int) : ∀ (vs : List Int) (s : St), loopP near sub cells vs s = loopN near sub' cells vs s := by
  intro vs
  induction vs with
  | nil => intro s; rfl
  | cons v vs ih =>
    intro s
    unfold loopP loopN
    rw [refN_eq, h, ih]
theorem searchN_eq (cs : List Int) (es : List Ed) (near : List (List Int)) : ∀ (f : Nat) (s : St) (cells : List Int), searchP cs es near f s cells = searchN cs es near f s cells := by
  intro f
  induction f with
  | zero => intro s cells; unfold searchP searchN; rw [loopN_eq near (fun _ _ => rfl)]
  | succ f ih => intro s cells; unfold searchP searchN; rw [loopN_eq near ih]
theorem runN_eq (cs : List Int) (es : List Ed) (budget : Nat) : runP cs es budget = runN cs es budget := by
  unfold runP runN
  rw [searchN_eq, refN_eq]
end Go.Proofs.YtncknfhfkmmhbaaGreat
