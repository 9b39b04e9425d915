/- All systems with one block more: the program's side. No condition beyond those stated. -/
import Derived.Test.YtncknfhfkmmhbaaGreatZAU
import Derived.Test.YtncknfhfkmmhbaaGreatZAV
import Derived.Test.YtncknfhfkmmhbaaGreatZAF
set_option linter.unusedVariables false
set_option linter.unusedSimpArgs false
namespace Go.Proofs.YtncknfhfkmmhbaaGreat
open Go.RowKit

theorem unrP_len : ∀ (k : Nat) (L : List Int) (r : Nat), (unrP k L r).length = k := by
  intro k
  induction k with
  | zero => intro L r; rfl
  | succ k ih => intro L r; unfold unrP; rw [List.length_cons, ih]
theorem permK_rows (n k : Nat) : ∀ r, r < k → (row (permK n k) r).length = n := fun r hr => by
  rw [row_get (by rw [permK_len]; exact hr)]
  have hm := List.getElem_mem (show r < (permK n k).length by rw [permK_len]; exact hr)
  generalize (permK n k)[r]'(by rw [permK_len]; exact hr) = z at hm ⊢
  unfold permK at hm
  obtain ⟨q, _, rfl⟩ := List.mem_map.1 hm
  exact unrP_len _ _ _
/-- blocks of numbers below n -/
def SysM (n : Nat) (bs : List (List Int)) : Prop := ∀ r ∈ bs, r.length ≤ 32 ∧ ∀ x ∈ r, ∃ y : Nat, x = (y : Int) ∧ y < n
theorem SysM.sysN {n : Nat} {bs : List (List Int)} (h : SysM n bs) : SysN n bs := fun q hq => by
  rw [row_get hq]
  obtain ⟨h1, h2⟩ := h _ (List.getElem_mem hq)
  exact ⟨h1, fun i hi => by rw [nth_get hi]; exact h2 _ (List.getElem_mem hi)⟩
theorem SysM.snoc {n : Nat} {bs : List (List Int)} (h : SysM n bs) {s : List Int} (hs : s ∈ pairsL n) (h5 : ∀ p ∈ pairsN n, p.1 < p.2 ∧ p.2 < n) : SysM n (srtR (bs ++ [s])) := fun r hr => by
  have hr := (srtR_perm _).mem_iff.1 hr
  rcases List.mem_append.1 hr with hr | hr
  · exact h r hr
  · obtain rfl : r = s := by simpa using hr
    unfold pairsL at hs
    obtain ⟨p, hp, rfl⟩ := List.mem_map.1 hs
    obtain ⟨h1, h2⟩ := h5 p hp
    refine ⟨by simp [toL], fun x hx => ?_⟩
    simp [toL] at hx
    rcases hx with rfl | rfl
    · exact ⟨p.1, rfl, by omega⟩
    · exact ⟨p.2, rfl, h2⟩
theorem pairs_ok {n : Nat} : ∀ p ∈ pairsN n, p.1 < p.2 ∧ p.2 < n := fun p hp => by
  unfold pairsN at hp
  obtain ⟨a, ha, hb⟩ := List.mem_flatMap.1 hp
  obtain ⟨b, hb2, rfl⟩ := List.mem_map.1 hb
  obtain ⟨h1, h2⟩ := List.mem_filter.1 hb2
  exact ⟨of_decide_eq_true h2, List.mem_range.1 h1⟩
theorem RI.kept2 {w w' : World} {A : Option Addr} {m : Nat} {z : List Int} {r : Option Nat} (h : RI w A m z) (hg : w.grownBy w' r) (hne : ∀ b, blk A = some b → some b ≠ r) : RI w' A m z :=
  ⟨h.len, fun j x hx => by
    obtain ⟨ad, u, ha, hc, he⟩ := RS.at_ h j x hx
    refine ⟨ad, u, ha, ?_, he⟩
    have hb := block_lt hc
    have hblk : some (ad.add j).block ≠ r := hne _ (by rw [ha]; simp [blk, add_block])
    have := hg.block _ hb hblk
    unfold World.cell? at hc ⊢
    rw [this]
    exact hc⟩
theorem RI.blk_lt {w : World} {A : Option Addr} {m : Nat} {z : List Int} (h : RI w A m z) (hm : 0 < m) : ∀ b, blk A = some b → b < w.heap.size := fun b hb => by
  obtain ⟨ad, rfl, hc, -⟩ := h.get (k := 0) hm
  have := block_lt hc
  rw [add_block] at this
  have e : ad.block = b := by simpa [blk] using hb
  omega
theorem toL_pos {n : Nat} {s : List Int} (h : s ∈ pairsL n) : s.length = 2 := by
  unfold pairsL at h
  obtain ⟨p, _, rfl⟩ := List.mem_map.1 h
  rfl
/-- a system with one block more, its least image -/
def moreP (n : Nat) (bs : List (List Int)) (s : List Int) : List (List Int) := leastS (permK n (factN n)) (srtR (bs ++ [s])) (factN n)
def nextP (n : Nat) (bs : List (List Int)) : List (List (List Int)) := (extP n bs (pairsL n)).map (moreP n bs)
def extdP (n : Nat) (L : List (List (List Int))) : List (List (List Int)) := comp (srtS (L.flatMap (nextP n)))
theorem extP_sub {n : Nat} {bs ps : List (List Int)} {s : List Int} (h : s ∈ extP n bs ps) : s ∈ ps := (List.mem_filter.1 h).1
theorem flat_step {α β : Type} (L : List α) (f : α → List β) {q : Nat} {x : α} (h : L[q]? = some x) : (L.take (q + 1)).flatMap f = (L.take q).flatMap f ++ f x := by
  obtain ⟨hq, rfl⟩ := List.getElem?_eq_some_iff.1 h
  rw [List.take_succ_eq_append_getElem hq, List.flatMap_append]
  simp
theorem map_step {α β : Type} (L : List α) (f : α → β) {q : Nat} {x : α} (h : L[q]? = some x) : (L.take (q + 1)).map f = (L.take q).map f ++ [f x] := by
  obtain ⟨hq, rfl⟩ := List.getElem?_eq_some_iff.1 h
  rw [List.take_succ_eq_append_getElem hq, List.map_append]
  rfl
theorem compactS_short (A : Option Addr) (n c : Nat) (w : World) (hn : n < 2) :
    Calls Tryz.prog 29 #[.slice A n c, .func (.func 30) #[] #[]] w (fun e w' => e = .returned (.slice A n c) ∧ w = w') := by
  go_enter Tryz.func29, Tryz.ntmps29
  go_wp2
  go_ret
  exact ⟨rfl, rfl⟩
theorem grow_past {a w w' : World} {r r0 : Option Nat} (h : a.grownBy w r0) (hg : w.grownBy w' r) (hr : r = r0 ∨ ∃ k, r = some k ∧ a.heap.size ≤ k) : a.grownBy w' r0 := by
  rcases hr with rfl | ⟨k, rfl, hk⟩
  · exact h.trans hg
  · refine ⟨hg.os.trans h.os, hg.tape.trans h.tape, hg.output.trans h.output, Nat.le_trans h.size hg.size, fun j hj hne => ?_⟩
    rw [hg.block j (Nat.lt_of_lt_of_le hj h.size) (by intro e; injection e with e; omega)]
    exact h.block j hj hne
/-- a slice of slices that reads the same whatever is done to block r -/
def RdX (r : Option Nat) (w : World) (v : Sl) (x : List (List Int)) : Prop := ∀ w', w.grownBy w' r → RdR w' v x
theorem RdX.now {r : Option Nat} {w : World} {v : Sl} {x : List (List Int)} (h : RdX r w v x) : RdR w v x := h w (World.grownBy.refl _ _)
theorem ORv.stableX {w : World} {B : Nat} {A : Option Addr} {n c : Nat} {vs : List Sl} {zss : List (List Int)} (h : ORv w B 33 2 A n c vs zss) {r : Option Nat} (hr : ∀ b, r = some b → b < B) {B2 : Nat} {e2 : TypeId} {A2 : Option Addr} {n2 c2 : Nat} {xs : List Value} (k : OS w B2 e2 1 A2 n2 c2 xs) (h1 : 33 ≠ e2) (h2 : 2 ≠ e2) : ∀ w', w.grownBy w' (blk A2) → RdX r w' (A, n, c) zss := fun w' hg w'' hg2 =>
  have h' : ORv w' B 33 2 A n c vs zss := h.kept hg (OS.typed (h.os.more (Nat.zero_le _)) (k.more (Nat.zero_le _)) h1) (fun j v hv => by
    have hj : j < zss.length := by rw [← h.len]; exact (List.getElem?_eq_some_iff.1 hv).1
    exact OS.typed ((h.rows j v _ hv (List.getElem?_eq_getElem hj)).os.more (Nat.zero_le _)) (k.more (Nat.zero_le _)) h2)
  have far : ∀ {A' : Option Addr} {n' c' : Nat} {e : TypeId} {ys : List Value}, OS w' B e 1 A' n' c' ys → blk A' = none ∨ blk A' ≠ r := fun {A'} {n'} {c'} {e} {ys} ho => by
    cases hb : blk A' with
    | none => exact .inl rfl
    | some b =>
      refine .inr fun e' => ?_
      have := (ho.lt hb).1
      have := hr b e'.symm
      omega
  ⟨h.os.cap.1, h.os.cap.2, (OR.reads ⟨vs, h'.kept hg2 (far h'.os) (fun j v hv => by
    have hj : j < zss.length := by rw [← h.len]; exact (List.getElem?_eq_some_iff.1 hv).1
    exact far (h'.rows j v _ hv (List.getElem?_eq_getElem hj)).os)⟩)⟩
theorem SV.rr3X {r : Option Nat} {w : World} {B : Nat} {e : TypeId} {A : Option Addr} {n c : Nat} {vs : List Sl} {l : List (List (List Int))} (h : SV (RdX r) w B e A n c vs l) (hr : ∀ b, r = some b → b < B) : ∀ w', w.grownBy w' r → RR3 w' A n l := fun w' hg =>
  ⟨h.slen, fun j x hx => by
    have hj : j < n := by rw [← h.slen]; exact (List.getElem?_eq_some_iff.1 hx).1
    obtain ⟨g, v, y, rfl, hc, _, hy, hv, _⟩ := h.at_ hj
    rw [hx] at hy
    injection hy with hy
    subst hy
    have hos := h.os.kept hg (.inr (fun e' => by
      have := (h.os.lt (k := g) rfl).1
      have := hr g e'.symm
      omega))
    obtain ⟨g', e1, hc', _⟩ := hos.cell (j := j) (u := slv v) (by rw [List.getElem?_map, hv]; rfl)
    injection e1 with e1
    injection e1 with e1
    subst e1
    exact ⟨_, _, rfl, by rw [Addr.add_lit, Nat.zero_add]; exact hc', v, rfl, h.rd j v x hv hx w (World.grownBy.refl _ _) w' hg⟩⟩
section
variable {ops : Array Oper} {rest : List Oper} {o : Oper} {a : Act} {Q : Exit → Act → World → Prop}
theorem app_svX (r : Option Nat) (w : World) (hgd : o.guard = none) (s x : Operand) (ho : o.op = .call { callee := .builtin .append, args := #[s, x], argTypes := #[44, 44] })
    (B : Nat) (A : Option Addr) (n c : Nat) (vs : List Sl) (l : List (List (List Int))) (hs : a.eval s = .slice A n c) (hown : SV (RdX r) w B 46 A n c vs l) (v : Sl) (z : List (List Int)) (hv : ∀ w'', w.grownBy w'' (blk A) → RdX r w'' v z)
    (g : Nat) (hx : a.eval x = .slice (some ⟨g, 0, none⟩) 1 1) (hgx : g = w.heap.size) (hbig : n + 1 ≤ 2199023255552) (hB : B ≤ w.heap.size)
    (h : ∀ A' c' w', SV (RdX r) w' B 46 A' (n + 1) c' (vs ++ [v]) (l ++ [z]) → w.grownBy w' (blk A) → (blk A' = blk A ∨ ∃ k, blk A' = some k ∧ w.heap.size ≤ k) → wpList Tryz.prog ops Q rest (a.put o.dst (.slice A' (n + 1) c')) w') :
    wpList Tryz.prog ops Q (o :: rest) a (w.alloc (.cells #[.slice v.1 v.2.1 v.2.2] 46)) :=
  wpList_app1' w hgd s x 44 ho 46 (.slice none 0 0) 24 Tryz.underlying44 sys_info rfl (by omega) B A n c (vs.map slv) hs hown.os (.slice v.1 v.2.1 v.2.2) g hx hgx rfl hbig hB
    fun A' c' w' h1 h2 h3 => h A' c' w' (hown.push hv h1 h2 h3) h2 h3
end
theorem sortSVX_any (r : Option Nat) (B : Nat) (A : Option Addr) (n c : Nat) (vs : List Sl) (l : List (List (List Int))) (w : World) (h : SV (RdX r) w B 46 A n c vs l) (hn : n ≤ 1048576) :
    Calls Tryz.prog 27 #[.slice A n c, .func (.func 28) #[] #[]] w (fun e w' => e = .returned (.tuple #[]) ∧ (∃ vs', SV (RdX r) w' B 46 A n c vs' (srtS l)) ∧ w.grownBy w' (blk A)) := by
  have := sortSV_gen Tryz.sr3L Tryz.sz3L rfl (RdX r) cmpS cmpS_ord 28 (fun _ _ => by kernel_rfl) (fun W u x v y hu hv => by
    have hu := hu.now
    have hv := hv.now
    exact compareSystems_any u.1 v.1 u.2.1 v.2.1 u.2.2 v.2.2 x y W hu.2.2 hv.2.2 (by have := hu.1; have := hu.2.1; omega) (by have := hv.1; have := hv.2.1; omega)) B 46 A n c vs l w h hn
  refine Calls.mono this ?_
  rintro e w' ⟨he, ⟨vs', l', h1, h2, h3⟩, hg⟩
  exact ⟨he, ⟨vs', by rw [← srtS_unique h2 h3]; exact h1⟩, hg⟩
theorem compactSX_any (r : Option Nat) (B : Nat) (A : Option Addr) (n c : Nat) (vs : List Sl) (l : List (List (List Int))) (w : World) (h : SV (RdX r) w B 46 A n c vs l) (hn : n ≤ 1048576) (hpos : 0 < n) :
    Calls Tryz.prog 29 #[.slice A n c, .func (.func 30) #[] #[]] w (fun e w' => ∃ m, e = .returned (.slice A m c) ∧ (∃ vs', SV (RdX r) w' B 46 A m c vs' (comp l)) ∧ w.grownBy w' (blk A)) := by
  obtain ⟨g, v0, x0, rfl, -, -, -, -, -⟩ := h.at_ hpos
  have hz1 : (vs.zip l).map (·.1) = vs := by rw [List.map_fst_zip (by have := h.len; omega)]
  have hz2 : (vs.zip l).map (·.2) = l := by rw [List.map_snd_zip (by have := h.len; omega)]
  have hpv : PV3 w B 46 g n c (vs.zip l) := ⟨by
    have := h.os
    rw [← hz1, List.map_map] at this
    exact this, fun p hp w' hg => by
    obtain ⟨j, hj⟩ := List.getElem?_of_mem hp
    rw [List.getElem?_zip_eq_some] at hj
    exact (h.rd j p.1 p.2 hj.1 hj.2 w' hg).now⟩
  have hgl : g < w.heap.size := (h.os.lt (k := g) rfl).2
  refine (compactS_sub B g n c _ w hpv hn hgl).mono ?_
  rintro e w' ⟨m, Y, rfl, h1, h2, h3, h4⟩
  rw [hz2] at h2
  refine ⟨m, rfl, ⟨Y.map (·.1), ?_⟩, h4⟩
  rw [← h2]
  refine ⟨by have := h1.os; rw [List.map_map]; exact this, by simp, fun j v x hv hx w'' hg => ?_⟩
  rw [List.getElem?_map] at hv hx
  cases hq : Y[j]? with
  | none => rw [hq] at hv; cases hv
  | some q =>
    rw [hq] at hv hx
    simp only [Option.map_some, Option.some.injEq] at hv hx
    subst hv; subst hx
    obtain ⟨i, hi⟩ := List.getElem?_of_mem (h3.mem (List.mem_of_getElem? hq))
    rw [List.getElem?_zip_eq_some] at hi
    exact h.rd i q.1 q.2 hi.1 hi.2 w'' (h4.trans hg)
set_option maxRecDepth 100000 in
set_option maxHeartbeats 8000000 in
theorem extended_any (r : Option Nat) (n : Nat) (A : Option Addr) (m c : Nat) (L : List (List (List Int))) (w : World) (hrw : ∀ b, r = some b → b < w.heap.size) (ha : RR3 w A m L) (hm : m ≤ 64) (h1 : 1 ≤ n) (h5 : n ≤ 5) (hL : ∀ bs ∈ L, SysM n bs ∧ bs.length ≤ 20) :
    Calls Tryz.prog 15 #[.int .i64 n, .slice A m c, .int .i64 2, .int .i64 n] w (fun e w' => ∃ B k d, e = .returned (.slice B k d) ∧ (∀ w'', w'.grownBy w'' r → RR3 w'' B k (extdP n L)) ∧ Below w.heap.size w w') := by
  have hlen := ha.len
  have HL := Lib.hid hL
  have HRW := Lib.hid hrw
  have HLEN := Lib.hid hlen
  clear hL hlen hrw
  go_enter Tryz.func15, Tryz.ntmps15
  go_wp2
  go_loopw [9, 17] (fun lv iv wr => ∃ (q k : Nat) (B : Option Addr) (d : Nat) (vs : List Sl), q ≤ m ∧ iv = .int .i64 q ∧ lv = .slice B k d ∧ k ≤ 10 * q ∧ SV (RdX r) wr w.heap.size 46 B k d vs ((L.take q).flatMap (nextP n)) ∧ Below w.heap.size w wr) (fun _ iv _ => m - (intOf iv).toNat)
  case atStart => exact ⟨0, 0, none, 0, [], Nat.zero_le _, rfl, rfl, by omega, by simpa using SV.nil_ (RdX r) _ _ _, Below.refl _ _⟩
  case round =>
    obtain ⟨q, k, B00, d, vs, hq, rfl, rfl, hkq, hsv, hb⟩ := hrel
    by_cases hlt : q < m
    · obtain ⟨ad, S, sn, sc, rfl, cS0, hs1, hs2, bs, hbs, hrr0⟩ := ha.get hlt
      have cS := below_cell hb cS0
      have hrr := hrr0.keep hb
      obtain ⟨hsm, hsl⟩ := HL.out bs (List.mem_of_getElem? hbs)
      have hsn := hrr.len
      have hex := extensions_any n S sn sc bs wr hrr (by omega) h1 h5 (fun r hr => (hsm r hr).1)
      have HST := Lib.hid (flat_step L (nextP n) hbs)
      have HSM := Lib.hid hsm
      have HROW := Lib.hid (fun r hr => (hsm r hr).1)
      clear hsm hbs
      have HSV0 := Lib.hid hsv
      go_wp2_with fail
      refine hex.mono ?_
      rintro e w2 ⟨PB, pk, pd, pvs, rfl, hol, hpk, hb2⟩
      have hw2 := Lib.hid (hb.trans (hb2.mono hb.size))
      have hsv2 := Lib.hid (hsv.below hb2)
      have HBL := Lib.hid (fun b (e : blk B00 = some b) => (hsv.os.lt e).2)
      have hpl := hol.slen
      have HLO := Lib.hid hb2.size
      have HOL := Lib.hid hol
      have HPL := Lib.hid hpl
      clear hex hb2 hsv hb cS hrr hpl hol
      generalize wr.heap.size = lo at *
      generalize hE : extP n bs (pairsL n) = E at *
      have HE := Lib.hid hE
      clear hE
      generalize hbase : (L.take q).flatMap (nextP n) = base at *
      clear hbase
      have h0 : Hid (SV (RdX r) w2 w.heap.size 46 B00 k d vs (base ++ (E.take 0).map (moreP n bs))) := Lib.hid (by simpa using hsv2.out)
      go_wp2
      go_loopw [9, 27] (fun lv jv wr => ∃ (j k' : Nat) (B : Option Addr) (d : Nat) (vs : List Sl), j ≤ pk ∧ jv = .int .i64 j ∧ lv = .slice B k' d ∧ k' ≤ k + j ∧ SV (RdX r) wr w.heap.size 46 B k' d vs (base ++ (E.take j).map (moreP n bs)) ∧ Below w.heap.size w wr ∧ w2.grownBy wr (blk B00) ∧ (blk B = blk B00 ∨ ∃ k, blk B = some k ∧ w2.heap.size ≤ k)) (fun _ jv _ => pk - (intOf jv).toNat)
      case atStart => exact ⟨0, k, B00, d, vs, Nat.zero_le _, rfl, rfl, by omega, h0.out, hw2.out, World.grownBy.refl _ _, .inl rfl⟩
      case round =>
        clear h0
        obtain ⟨j, k', B, d, vs, hj, rfl, rfl, hkj, hsv, hwb, hgr, hbB⟩ := hrel
        by_cases hlj : j < pk
        · have hol := HOL.out.kept hgr HBL.out (Nat.le_refl _)
          obtain ⟨gp, ⟨R, rn, rc⟩, s, rfl, cR, hEj, hoi⟩ := hol.at_ hlj
          replace cR : wr.cell? ⟨gp, j, none⟩ = some (.slice R rn rc) := cR
          have hri := hoi.reads
          have hrl := hri.len
          have hr1 := hoi.os.cap.1
          have hr2 := hoi.os.cap.2
          have hmem : s ∈ pairsL n := extP_sub (n := n) (bs := bs) (by rw [HE.out]; exact List.mem_of_getElem? hEj)
          have HST2 := Lib.hid (map_step E (moreP n bs) hEj)
          have hrr3 := hrr0.keep hwb
          have hcl : cells bs ≤ 1099511627776 := by
            have := cells_leS HROW.out
            omega
          have hcp := copyLists_any S sn sc bs wr hrr3 (by omega) hcl
          clear hEj hol
          go_wp2_with fail
          refine hcp.mono ?_
          rintro e w3 ⟨C, cn, cc, rfl, ⟨cvs, hoc⟩, hb3⟩
          have hcn := hoc.slen
          have hri3 := hri.keep hb3
          have hs2' := toL_pos hmem
          have hRlt := fun b (e : blk R = some b) => (hoi.os.lt e).2
          have hstab : ∀ w'', w3.grownBy w'' (blk C) → RdI w'' (R, rn, rc) s := fun w'' hg => ⟨hr1, hr2, hri3.kept2 hg (fun b hb e => by
            have := hRlt b hb
            have := (hoc.os.lt (k := b) e.symm).1
            omega)⟩
          clear hcp hrr3
          go_wp2_with (at_builtin; refine app_sv _ rfl (.tmp 32) (.tmp 34) rfl wr.heap.size C cn cc cvs bs rfl hoc.sv (R, rn, rc) s hstab _ rfl rfl (by omega) hb3.size ?_; intro A4 c4 w4 ho4 hg4 hn4; have hb4 := below_own hb3 hg4 hb3.size (fun b hb => (hoc.os.lt hb).1))
          have hso := sortSV2_any _ A4 (cn + 1) c4 _ _ w4 ho4 (by omega)
          refine hso.mono ?_
          rintro e w5 ⟨rfl, ⟨vs5, ho5⟩, hg5⟩
          have hb5 := below_own hb4 hg5 hb4.size (fun b hb => (ho4.os.lt hb).1)
          have hls := leastSystem_any n A4 (cn + 1) c4 (srtR (bs ++ [s])) w5 ho5.rr (by omega) h1 (by omega) (HSM.out.snoc hmem pairs_ok).sysN (permK_rows n _)
          clear hso ho4 hg4 hg5 hoc hri3 hri hstab hRlt hcl
          go_wp2_with fail
          refine hls.mono ?_
          rintro e w6 ⟨D, dn, dc, rfl, ⟨dvs, hod⟩, hb6⟩
          have hb5w := Nat.le_trans hwb.size hb5.size
          have hb6w := hb5.trans (hb6.mono hb5.size)
          have hsv6 := hsv.below hb6w
          have hwr6 := Lib.hid (hwb.trans (hb6w.mono hwb.size))
          have hgr6 := Lib.hid (grow_past hgr (grownBy_of_below hb6w (blk B00)) (.inl rfl))
          have hws := hwr6.out.size
          have hstab2 := hod.stableX (r := r) (fun b e => Nat.lt_of_lt_of_le (HRW.out b e) hb5w) hsv6.os (by decide) (by decide)
          have HMP : Hid (leastS (permK n (factN n)) (srtR (bs ++ [s])) (factN n) = moreP n bs s) := Lib.hid rfl
          rw [HMP.out] at hstab2
          clear hls hod hsv hb6 hb5 hb4 hb3
          go_wp2_with (at_builtin; refine app_svX r _ rfl (.tmp 38) (.tmp 42) rfl w.heap.size B k' d vs _ rfl hsv6 (D, dn, dc) (moreP n bs s) hstab2 _ rfl rfl (by omega) hws ?_; intro A7 c7 w7 ho7 hg7 hn7; have hb7 := below_own hwr6.out hg7 hwr6.out.size (fun b hb => (hsv6.os.lt hb).1); have hgr7 := grow_past hgr6.out hg7 hbB; rw [List.append_assoc, ← HST2.out] at ho7)
          go_roundw
          case rel => exact ⟨j + 1, k' + 1, A7, c7, _, by omega, by go_num, rfl, by omega, ho7, hb7, hgr7, hn7.elim (fun e => by rw [e]; exact hbB) (fun ⟨q, e, hq⟩ => .inr ⟨q, e, Nat.le_trans hgr6.out.size hq⟩)⟩
          case measure => simp [intOf]; omega
        · obtain rfl : j = pk := by omega
          rw [List.take_of_length_le (by rw [HPL.out]; exact Nat.le_refl _)] at hsv
          have HSV := Lib.hid hsv
          clear hsv
          go_wp2
          go_roundw
          case rel => exact ⟨q + 1, k', B, d, vs, by omega, by go_num, rfl, by omega, by rw [HST.out]; unfold nextP; rw [HE.out]; exact HSV.out, hwb⟩
          case measure => simp [intOf]; omega
    · obtain rfl : q = m := by omega
      rw [List.take_of_length_le (by rw [HLEN.out]; exact Nat.le_refl _)] at hsv
      have hso := sortSVX_any r _ B00 k d vs _ wr hsv (by omega)
      have hws := hb.size
      go_wp2_with fail
      refine hso.mono ?_
      rintro e w2 ⟨rfl, ⟨vs2, ho2⟩, hg2⟩
      have hb2 := below_own hb hg2 hws (fun b e => (hsv.os.lt e).1)
      have HX := Lib.hid (show extdP n L = comp (srtS (L.flatMap (nextP n))) from rfl)
      generalize srtS (L.flatMap (nextP n)) = Z at *
      rcases Nat.eq_zero_or_pos k with rfl | hk
      · have hZ : Z = [] := List.eq_nil_of_length_eq_zero ho2.slen
        have hcp := compactS_short B00 0 d w2 (by omega)
        have hr3 := ho2.rr3X HRW.out
        rw [hZ] at hr3
        have HX2 := Lib.hid (show extdP n L = [] by rw [HX.out, hZ]; rfl)
        clear hso HX
        go_wp2_with fail
        refine hcp.mono ?_
        rintro e w3 ⟨rfl, rfl⟩
        go_wp2
        go_ret
        exact ⟨B00, 0, d, rfl, by rw [HX2.out]; exact hr3, hb2⟩
      · have hcp := compactSX_any r _ B00 k d vs2 Z w2 ho2 (by omega) hk
        clear hso
        go_wp2_with fail
        refine hcp.mono ?_
        rintro e w3 ⟨m3, rfl, ⟨vs3, ho3⟩, hg3⟩
        have hb3 := below_own hb2 hg3 hb2.size (fun b e => (ho2.os.lt e).1)
        go_wp2
        go_ret
        exact ⟨B00, m3, d, rfl, by rw [HX.out]; exact ho3.rr3X HRW.out, hb3⟩
end Go.Proofs.YtncknfhfkmmhbaaGreat
