/- Numerals, the reference's side. No condition beyond those stated. -/
import Derived.Test.YtkihflnenifcgaaGreatDoorZAN
import Derived.Laws.IdiomStrings
import Derived.Test.YtkihflnenifcgaaGreatDoorZAH
import Derived.Test.YtkihflnenifcgaaGreatDoorZAI
set_option linter.unusedVariables false
set_option linter.unusedSimpArgs false
namespace Go.Proofs.YtkihflnenifcgaaGreatDoor
open Go.RowKit Go.Shelf

theorem byte_info : (Tryz.prog.info? 5).map (fun i => (i.zero, i.size, i.bytes)) = some (some (.int .u8 0), 1, 1) := by kernel_rfl
def byteV (l : List UInt8) : List Value := l.map fun b => .int .u8 (b.toNat : Int)
theorem byteV_len (l : List UInt8) : (byteV l).length = l.length := by simp [byteV]
/-- digits in front of digits -/
def DgI (z k : Nat) (l : List UInt8) : Prop := (0 < k ∧ k ≤ z ∧ Lib.decDigits k ++ l = Lib.decDigits z) ∨ (k = 0 ∧ 0 < z ∧ l = Lib.decDigits z) ∨ (k = 0 ∧ z = 0 ∧ l = [])
theorem DgI.start (z : Nat) : DgI z z [] := by
  by_cases h : 0 < z
  · exact .inl ⟨h, Nat.le_refl _, by simp⟩
  · exact .inr (.inr ⟨by omega, by omega, rfl⟩)
theorem DgI.step {z k : Nat} {l : List UInt8} (h : DgI z k l) (hk : 0 < k) : DgI z (k / 10) (UInt8.ofNat (48 + k % 10) :: l) := by
  rcases h with ⟨h1, h2, h3⟩ | ⟨h1, -⟩ | ⟨h1, -⟩
  · by_cases h4 : k < 10
    · rw [dc_one k h4] at h3
      refine .inr (.inl ⟨by omega, by omega, ?_⟩)
      rw [← h3, Nat.mod_eq_of_lt h4]
      rfl
    · rw [Lib.decDigits, dif_neg h4, List.append_assoc] at h3
      exact .inl ⟨by omega, by omega, h3⟩
  · omega
  · omega
set_option maxRecDepth 100000 in
set_option maxHeartbeats 1000000 in
theorem l01Dec_any (z : Nat) (h1 : z < 100) (w : World) :
    Calls Tryz.prog 65 #[.int .i64 z] w fun e w' => e = .returned (.string (dcS z)) ∧ Below w.heap.size w w' := by
  have hb1 := below_alloc w (.cells #[] 5)
  have ho1 : OS (w.alloc (.cells #[] 5)) w.heap.size 5 1 (some ⟨w.heap.size, 0, none⟩) 0 0 (byteV []) := OS.lit w w.heap.size 5 1 0 #[] (Nat.le_refl _) rfl (by omega)
  have hd0 := DgI.start z
  have hz0 : decide ((z : Int) < 0) = false := by simp
  have hdc : (dcS (z : Int)) = ⟨(Lib.decDigits z).toArray⟩ := by unfold dcS; rw [Int.toNat_natCast]
  have HDC := Lib.hid hdc
  clear hdc
  go_enter Tryz.func65, Tryz.ntmps65
  go_wp2
  go_loopw [3, 4] (fun r i wr => ∃ (k : Nat) (l : List UInt8) (OA : Option Addr) (ln oc : Nat), k ≤ z ∧ i = .int .i64 k ∧ r = .slice OA ln oc ∧ ln = l.length ∧ ln ≤ 100 - k ∧ OS wr w.heap.size 5 1 OA ln oc (byteV l) ∧ DgI z k l ∧ Below w.heap.size w wr) (fun _ i _ => (intOf i).toNat)
  case atStart => exact ⟨z, [], _, 0, 0, Nat.le_refl _, rfl, rfl, rfl, by omega, ho1, hd0, hb1⟩
  case round =>
    clear hb1 ho1 hd0
    obtain ⟨k, l, OA, ln, oc, hk, rfl, rfl, hl, hlk, ho, hd, hb⟩ := hrel
    by_cases h0 : k = 0
    · subst h0
      have HO := Lib.hid ho
      have HB := Lib.hid hb
      rcases hd with ⟨h2, -⟩ | ⟨-, h2, h3⟩ | ⟨-, h2, h3⟩
      · omega
      · subst h3
        subst hl
        have hl0 : 0 < (Lib.decDigits z).length := by
          by_cases h9 : z < 10
          · rw [dc_one z h9]; simp
          · rw [dc_two z h1 (by omega)]; simp
        obtain ⟨g, rfl, -, -⟩ := ho.form hl0
        have kc := run_convert_bytes_back (P := Tryz.prog) wr 22 9 5 ⟨g, 0, none⟩ oc (Lib.decDigits z) Tryz.underlying22 Tryz.underlying5 Tryz.underlying9 (fun j hj => by
          obtain ⟨ad, e, hc⟩ := HO.out.cells j (.int .u8 ((Lib.decDigits z)[j].toNat : Int)) (by simp [byteV, hj])
          injection e with e
          rw [e]
          exact hc)
        have hne : (((Lib.decDigits z).length : Int) == 0) = false := by simp; intro e; rw [e] at hl0; simp at hl0
        generalize Lib.decDigits z = L at *
        clear ho HO hb
        go_wp2
        go_ret
        exact ⟨by rw [HDC.out]; rfl, HB.out⟩
      · subst h2 h3
        subst hl
        go_wp2
        go_ret
        exact ⟨by rw [HDC.out, dc_one 0 (by omega)]; rfl, HB.out⟩
    · have hne : ((k : Int) != 0) = true := by simp; omega
      have hm2 : decide (((k : Int) % 10) < 0) = false := by simp; omega
      have hm3 : 48 + (k : Int) % 10 = ((UInt8.ofNat (48 + k % 10)).toNat : Int) := by
        have e : (k : Int) % 10 = ((k % 10 : Nat) : Int) := by omega
        rw [e]
        have : k % 10 < 10 := Nat.mod_lt _ (by omega)
        generalize k % 10 = q at this
        rcases (show q = 0 ∨ q = 1 ∨ q = 2 ∨ q = 3 ∨ q = 4 ∨ q = 5 ∨ q = 6 ∨ q = 7 ∨ q = 8 ∨ q = 9 by omega) with rfl | rfl | rfl | rfl | rfl | rfl | rfl | rfl | rfl | rfl <;> decide
      have hst := Lib.hid (hd.step (by omega))
      have hlit := OS.lit wr w.heap.size 5 1 1 #[.int .u8 (48 + (k : Int) % 10)] hb.size rfl (by omega)
      have hb2 := below_alloc wr (.cells #[.int .u8 (48 + (k : Int) % 10)] 5)
      have ho2 := ho.below hb2
      have hbw2 := below_then hb hb2
      have HV := Lib.hid (show [Value.int .u8 (48 + (k : Int) % 10)] ++ byteV l = byteV (UInt8.ofNat (48 + k % 10) :: l) by rw [hm3]; rfl)
      have hone : ∀ u ∈ byteV l, u.oneCell' = true := fun u hu => by
        obtain ⟨b, -, rfl⟩ := List.mem_map.1 hu
        rfl
      have HL := Lib.hid hl
      have HK := Lib.hid hlk
      have hln : ln ≤ 100 := by omega
      have hvl : (byteV l).length = ln * 1 := by rw [byteV_len]; omega
      clear ho hb hd hl hlk hm3 hb2
      go_wp2_with (at_builtin; refine wpList_app _ rfl (.tmp 21) (.tmp 22) 22 rfl 5 (.int .u8 0) 1 1 Tryz.underlying22 byte_info rfl (by omega) (by omega) w.heap.size (some ⟨wr.heap.size, 0, none⟩) 1 1 [.int .u8 (48 + (k : Int) % 10)] rfl hlit OA ln oc (byteV l) rfl hvl ho2.cells hone (by omega) hbw2.size ?_; intro A8 c8 w8 ho8 hg8 _; have hb8 := below_own hbw2 hg8 hbw2.size (fun q hq => (hlit.lt hq).1))
      go_roundw
      case rel => exact ⟨k / 10, UInt8.ofNat (48 + k % 10) :: l, A8, 1 + ln, c8, by omega, by go_num, rfl, by rw [List.length_cons, HL.out]; omega, by have := HK.out; omega, HV.out ▸ ho8, hst.out, hb8⟩
      case measure => simp [intOf]; omega
end Go.Proofs.YtkihflnenifcgaaGreatDoor
/- Texts of lists, the reference's side. No condition beyond those stated. -/
namespace Go.Proofs.YtkihflnenifcgaaGreatDoor
open Go.RowKit Go.Shelf

theorem ba_ext {a b : ByteArray} (h : a.data.toList = b.data.toList) : a = b := by
  obtain ⟨⟨a⟩⟩ := a
  obtain ⟨⟨b⟩⟩ := b
  simp only [] at h
  rw [h]
theorem joinS_nil (sep : ByteArray) : joinS [] sep = ⟨#[]⟩ := rfl
theorem joinS_one (x sep : ByteArray) : joinS [x] sep = x := ba_ext (by simp [joinS, bts, Lib.join_one])
theorem joinS_snoc {ss : List ByteArray} (x sep : ByteArray) (h : ss ≠ []) : joinS (ss ++ [x]) sep = joinS ss sep ++ sep ++ x := ba_ext (by
  have := join_snoc x.data.toList sep.data.toList (bts ss) (by simpa [bts] using h)
  simp only [joinS, bts, List.map_append, List.map_cons, List.map_nil] at this ⊢
  rw [this]
  simp [ByteArray.data_append])
theorem part_size {zs : List Int} (hl : zs.length ≤ 64) (hz : ∀ k, k < zs.length → 0 ≤ nth zs k ∧ nth zs k ≤ 63) (k : Nat) : (joinS ((zs.take k).map dcS) comma).size ≤ 1000 := by
  rw [joinS_size]
  have := join_size comma.data.toList 2 (bts ((zs.take k).map dcS)) (fun x hx => by
    obtain ⟨b, hb, rfl⟩ := List.mem_map.1 hx
    obtain ⟨z, hz2, rfl⟩ := List.mem_map.1 hb
    obtain ⟨k, hk, rfl⟩ := mem_nth (List.mem_of_mem_take hz2)
    have := hz k (by omega)
    show ((Lib.decDigits (nth zs k).toNat).toArray).toList.length ≤ 2
    exact dc_len _ (by omega))
  have e1 : (bts ((zs.take k).map dcS)).length ≤ 64 := by simp [bts]; omega
  have e2 : comma.data.toList.length = 1 := rfl
  rw [e2] at this
  omega
set_option maxRecDepth 100000 in
set_option maxHeartbeats 1000000 in
theorem specListText_any (A : Option Addr) (n c : Nat) (zs : List Int) (w : World) (ha : RI w A n zs) (hn : n ≤ 64) (hz : ∀ k, k < n → 0 ≤ nth zs k ∧ nth zs k ≤ 63) :
    Calls Tryz.prog 64 #[.slice A n c] w fun e w' => e = .returned (.string (listT zs)) ∧ Below w.heap.size w w' := by
  have hla := ha.len
  by_cases h0 : n = 0
  · subst h0
    have H := Lib.hid (show listT zs = minus by unfold listT; rw [if_pos (List.length_eq_zero_iff.1 hla)])
    clear ha
    go_enter Tryz.func64, Tryz.ntmps64
    go_wp2
    go_ret
    exact ⟨by rw [H.out]; rfl, Below.refl _ _⟩
  · have H := Lib.hid (show listT zs = joinS (zs.map dcS) comma by unfold listT; rw [if_neg (fun e => h0 (by rw [← hla, e]; rfl))])
    have hne : ((n : Int) == 0) = false := by simp; omega
    have HS := Lib.hid (part_size (zs := zs) (by omega) (fun k hk => hz k (by omega)))
    have HZ := Lib.hid hz
    have HA := Lib.hid ha
    clear hz ha
    go_enter Tryz.func64, Tryz.ntmps64
    go_wp2
    go_loopw [3, 4] (fun r i wr => ∃ (k : Nat), k ≤ n ∧ i = .int .i64 k ∧ r = .string (joinS ((zs.take k).map dcS) comma) ∧ Below w.heap.size w wr) (fun _ i _ => n - (intOf i).toNat)
    case atStart => exact ⟨0, Nat.zero_le _, rfl, rfl, Below.refl _ _⟩
    case round =>
      obtain ⟨k, hk, rfl, rfl, hb⟩ := hrel
      by_cases hlt : k < n
      · obtain ⟨ad, rfl, hcz, -⟩ := (HA.out.keep hb).get hlt
        have hzk := HZ.out k hlt
        have hst := nth_take_map zs (k := k) (by omega)
        have hT := HS.out k
        have hcall := l00In_any (nth zs k) (-999999999) 999999999
        rw [inB_mk (by omega)] at hcall
        have hB := Lib.hid hb
        generalize nth zs k = z at *
        obtain ⟨q, rfl⟩ := Int.eq_ofNat_of_zero_le hzk.1
        have hd := fun (w' : World) => l01Dec_any q (by omega) w'
        have hsz := dcS_size (q : Int) hzk.1 (by omega)
        by_cases hk0 : k = 0
        · have HN := Lib.hid (show joinS ((zs.take (k + 1)).map dcS) comma = joinS ((zs.take k).map dcS) comma ++ dcS (q : Int) by
            rw [← hst, hk0]
            simp only [List.take_zero, List.map_nil, List.nil_append, joinS_one, joinS_nil]
            exact (ba_ext (by simp [ByteArray.data_append])))
          have q0 : ¬ 0 < (k : Int) := by omega
          generalize joinS ((zs.take k).map dcS) comma = T at *
          have q1 : ¬ 9223372036854775807 < T.size + (dcS (q : Int)).size := by omega
          clear hst hb hk0
          go_wp2_with (first | (go_at_call 89; (with_reducible refine (hcall _).mono ?_); rintro e w' ⟨rfl, rfl⟩) | (go_at_call 65; refine (hd _).mono ?_; rintro e w5 ⟨rfl, hb5⟩))
          go_roundw
          case rel => exact ⟨k + 1, by omega, by go_num, by rw [HN.out], hB.out.trans (hb5.mono hB.out.size)⟩
          case measure => simp [intOf]; omega
        · have HN := Lib.hid (show joinS ((zs.take (k + 1)).map dcS) comma = joinS ((zs.take k).map dcS) comma ++ comma ++ dcS (q : Int) by rw [← hst, joinS_snoc]; intro e; have := congrArg List.length e; rw [List.length_map, List.length_take] at this; simp only [List.length_nil] at this; omega)
          generalize joinS ((zs.take k).map dcS) comma = T at *
          have q0 : 0 < (k : Int) := by omega
          have q1 : ¬ 9223372036854775807 < T.size + 1 := by omega
          have q2 : ¬ 9223372036854775807 < T.size + 1 + (dcS (q : Int)).size := by omega
          clear hst hb hk0
          go_wp2_with (first | (go_at_call 89; (with_reducible refine (hcall _).mono ?_); rintro e w' ⟨rfl, rfl⟩) | (go_at_call 65; refine (hd _).mono ?_; rintro e w5 ⟨rfl, hb5⟩))
          go_roundw
          case rel => exact ⟨k + 1, by omega, by go_num, by rw [HN.out]; rfl, hB.out.trans (hb5.mono hB.out.size)⟩
          case measure => simp [intOf]; omega
      · obtain rfl : k = n := by omega
        rw [List.take_of_length_le (by omega)]
        go_wp2
        go_ret
        exact ⟨by rw [H.out]; rfl, hb⟩
end Go.Proofs.YtkihflnenifcgaaGreatDoor
/- Texts of graphs, the reference's side. No condition beyond those stated. -/
namespace Go.Proofs.YtkihflnenifcgaaGreatDoor
open Go.RowKit Go.Shelf

theorem ba_assoc (a b c : ByteArray) : a ++ b ++ c = a ++ (b ++ c) := ba_ext (by simp [ByteArray.data_append])
theorem ba_nil (a : ByteArray) : a ++ (⟨#[]⟩ : ByteArray) = a := ba_ext (by simp [ByteArray.data_append])
theorem epart_size {cs : List Int} {es : List Ed} (hg : GraphOk cs es) (k : Nat) : (joinS ((es.take k).map edgeT) comma).size ≤ 10000 := by
  rw [joinS_size]
  have := join_size comma.data.toList 5 (bts ((es.take k).map edgeT)) (fun x hx => by
    obtain ⟨b, hb, rfl⟩ := List.mem_map.1 hx
    obtain ⟨e, he, rfl⟩ := List.mem_map.1 hb
    obtain ⟨k, hk, rfl⟩ := List.mem_iff_getElem.1 (List.mem_of_mem_take he)
    rw [← nthE_get hk]
    have := hg.edge k hk
    have := hg.clen
    have h1 := dc_len (nthE es k).1.toNat (by omega)
    have h2 := dc_len (nthE es k).2.toNat (by omega)
    simp [edgeT, dcS, minus, ByteArray.data_append]
    omega)
  have e1 : (bts ((es.take k).map edgeT)).length ≤ 512 := by have := hg.elen; simp [bts]; omega
  have e2 : comma.data.toList.length = 1 := rfl
  rw [e2] at this
  omega
set_option maxRecDepth 100000 in
set_option maxHeartbeats 2000000 in
theorem l21Text_any (A : Option Addr) (n c : Nat) (F : Option Addr) (m d : Nat) (cs : List Int) (es : List Ed) (w : World) (ha : RG w A n F m cs es) (hg : GraphOk cs es) :
    Calls Tryz.prog 34 #[.agg #[.slice A n c, .slice F m d]] w fun e w' => e = .returned (.string (graphT cs es)) ∧ Below w.heap.size w w' := by
  have hn : n ≤ 64 := by have := hg.clen; rwa [ha.ri.len] at this
  have hm : m ≤ 512 := by have := hg.elen; rwa [ha.re.len] at this
  have hla := ha.ri.len
  have hlb := ha.re.len
  have hb1 := below_alloc w (.cells #[.slice A n c, .slice F m d] 27)
  have B1 := Blk.new w 27 #[.slice A n c, .slice F m d]
  have HE := Lib.hid (fun k (hk : k < m) => (show 0 ≤ (nthE es k).1 ∧ (nthE es k).1 < 64 ∧ 0 ≤ (nthE es k).2 ∧ (nthE es k).2 < 64 by
    have := hg.edge k (by omega)
    have := hg.clen
    omega))
  have HA := Lib.hid ha
  have hL := specListText_any A n c cs _ (ha.ri.keep hb1) hn (fun k hk => hg.col k (by omega))
  have hlt0 := listT_size hg.clen hg.col
  have hs1 : ¬ 9223372036854775807 < (listT cs).size + 1 := by omega
  have HS := Lib.hid (epart_size hg)
  have hp0 : (listT cs ++ semi).size ≤ 1001 := by rw [ByteArray.size_append]; have : semi.size = 1 := rfl; omega
  clear ha hg
  go_enter Tryz.func34, Tryz.ntmps34
  go_wp2_with (go_at_call 64; refine hL.mono ?_; rintro e w1 ⟨rfl, hb2⟩; have B1 := B1.after hb2)
  have hb12 := below_then hb1 hb2
  clear hb1 hb2 hL hs1 hlt0
  have H0 := Lib.hid (show listT cs ++ ({ data := #[59] } : ByteArray) = listT cs ++ semi ++ joinS ((es.take 0).map edgeT) comma from (ba_nil _).symm)
  obtain ⟨P0, hP0⟩ : ∃ P0, listT cs ++ semi = P0 := ⟨_, rfl⟩
  have HG := Lib.hid (show graphT cs es = P0 ++ joinS (es.map edgeT) comma by unfold graphT; rw [hP0])
  rw [hP0] at H0 hp0
  clear hP0
  go_loopw [3, 4] (fun r i wr => ∃ (k : Nat), k ≤ m ∧ i = .int .i64 k ∧ r = .string (P0 ++ joinS ((es.take k).map edgeT) comma) ∧ Blk wr w.heap.size 27 #[.slice A n c, .slice F m d] ∧ Below w.heap.size w wr) (fun _ i _ => m - (intOf i).toNat)
  case atStart => exact ⟨0, Nat.zero_le _, rfl, by rw [H0.out], B1, hb12⟩
  case round =>
    clear B1 hb12 H0
    obtain ⟨k, hk, rfl, rfl, B1, hb⟩ := hrel
    obtain ⟨x0, x1⟩ := B1.cells2
    by_cases hlt : k < m
    · obtain ⟨g, o, rfl, h1, h2, -, -⟩ := (HA.out.re.keep hb).get hlt
      have hek := HE.out k hlt
      have hT := HS.out k
      have hst := edge_take_map es (k := k) (by omega)
      have hdr : Below wr.heap.size wr wr.drew := by have := below_drewn wr 1; rwa [← World.drew_is_drewN] at this
      have hB5 := Lib.hid (B1.after hdr)
      have hbw5 := hb.trans (hdr.mono hb.size)
      generalize hne : nthE es k = e at *
      obtain ⟨a, b⟩ := e
      simp only [] at hek h1 h2
      obtain ⟨a, rfl⟩ := Int.eq_ofNat_of_zero_le hek.1
      obtain ⟨b, rfl⟩ := Int.eq_ofNat_of_zero_le hek.2.2.1
      have ha2 := dcS_size (a : Int) hek.1 (by omega)
      have hb2 := dcS_size (b : Int) hek.2.2.1 (by omega)
      have q1 : ¬ 9223372036854775807 < (dcS (a : Int)).size + 1 := by omega
      have q2 : ¬ 9223372036854775807 < (dcS (a : Int)).size + 1 + (dcS (b : Int)).size := by omega
      have hT2 : (P0 ++ joinS ((es.take k).map edgeT) comma).size ≤ 11001 := by rw [ByteArray.size_append]; omega
      by_cases hk0 : k = 0
      · have HN := Lib.hid (show P0 ++ joinS ((es.take (k + 1)).map edgeT) comma = (P0 ++ joinS ((es.take k).map edgeT) comma) ++ edgeT ((a : Int), (b : Int)) by
          rw [← hst, hk0]
          simp only [List.take_zero, List.map_nil, List.nil_append, joinS_one, joinS_nil, ba_nil])
        generalize P0 ++ joinS ((es.take k).map edgeT) comma = T at *
        have q0 : ¬ 0 < (k : Int) := by omega
        have q3 : ¬ 9223372036854775807 < T.size + ((dcS (a : Int)).size + 1 + (dcS (b : Int)).size) := by omega
        clear hst hk0
        go_wp2
        refine region_suf (P := Tryz.prog) (n := 17) (S := fun w' => w'.cell? ⟨w.heap.size, 1, none⟩ = some (.slice (some ⟨g, o, none⟩) m d) ∧ w'.cell? ⟨g, o + k * 2, none⟩ = some (.int .i64 (a : Nat)) ∧ w'.cell? ⟨g, o + k * 2 + 1, none⟩ = some (.int .i64 (b : Nat))) (by kernel_rfl) (by simp only [List.take_succ_cons, List.take_zero]; rfl) (by simp only [List.drop_succ_cons, List.drop_zero]; rfl) (by kernel_rfl) (by simpa using ⟨x1, h1, h2⟩) ?_
        intro hS
        generalize wr.drew = W5 at *
        refine wpAnyH_take (i := 0) (v := ?_) rfl (by kernel_rfl) (by kernel_rfl) (by kernel_rfl) (fun _ _ _ h => h) (Or.inl ⟨by rfl, ?_⟩) (by assumption) ?_
        rotate_left
        · (intro w hSw; (try dsimp only at hSw); go_simp; (try with_reducible rfl))
        simp only [Act.put, List.setIfInBounds_toArray, List.set_cons_zero, List.set_cons_succ]
        refine wpAnyH_take (i := 1) (v := ?_) rfl (by kernel_rfl) (by kernel_rfl) (by kernel_rfl) (fun _ _ _ h => h) (Or.inl ⟨by rfl, ?_⟩) (by assumption) ?_
        rotate_left
        · (intro w hSw; (try dsimp only at hSw); go_simp; (try with_reducible rfl))
        simp only [Act.put, List.setIfInBounds_toArray, List.set_cons_zero, List.set_cons_succ]
        refine wpAnyH_take (i := 2) (v := ?_) rfl (by kernel_rfl) (by kernel_rfl) (by kernel_rfl) (fun _ _ _ h => h) (Or.inl ⟨by rfl, ?_⟩) (by assumption) ?_
        rotate_left
        · (intro w hSw; (try dsimp only at hSw); go_simp; (try with_reducible rfl))
        simp only [Act.put, List.setIfInBounds_toArray, List.set_cons_zero, List.set_cons_succ]
        refine wpAnyH_take (i := 3) (v := ?_) rfl (by kernel_rfl) (by kernel_rfl) (by kernel_rfl) (fun _ _ _ h => h) (Or.inl ⟨by rfl, ?_⟩) (by assumption) ?_
        rotate_left
        · (intro w hSw; (try dsimp only at hSw); go_simp; (try with_reducible rfl))
        simp only [Act.put, List.setIfInBounds_toArray, List.set_cons_zero, List.set_cons_succ]
        refine wpAnyH_take (i := 4) (v := ?_) rfl (by kernel_rfl) (by kernel_rfl) (by kernel_rfl) (fun _ _ _ h => h) (Or.inl ⟨by rfl, ?_⟩) (by assumption) ?_
        rotate_left
        · (intro w hSw; (try dsimp only at hSw); go_simp; (try with_reducible rfl))
        simp only [Act.put, List.setIfInBounds_toArray, List.set_cons_zero, List.set_cons_succ]
        refine wpAnyH_take (i := 5) (v := ?_) rfl (by kernel_rfl) (by kernel_rfl) (by kernel_rfl) (fun _ _ _ h => h) (Or.inl ⟨by rfl, ?_⟩) (by assumption) ?_
        rotate_left
        · (intro w hSw; (try dsimp only at hSw); go_simp; (try with_reducible rfl))
        simp only [Act.put, List.setIfInBounds_toArray, List.set_cons_zero, List.set_cons_succ]
        refine wpAnyH_take (i := 6) (v := ?_) rfl (by kernel_rfl) (by kernel_rfl) (by kernel_rfl) (fun _ _ _ h => h) (Or.inl ⟨by rfl, ?_⟩) (by assumption) ?_
        rotate_left
        · (intro w hSw; (try dsimp only at hSw); go_simp; (try with_reducible rfl))
        simp only [Act.put, List.setIfInBounds_toArray, List.set_cons_zero, List.set_cons_succ]
        refine wpAnyH_take (i := 9) (v := ?_) rfl (by kernel_rfl) (by kernel_rfl) (by kernel_rfl) (fun _ _ _ h => h) (Or.inl ⟨by rfl, ?_⟩) (by assumption) ?_
        rotate_left
        · (intro w hSw; (try dsimp only at hSw); go_simp; (try with_reducible rfl))
        simp only [Act.put, List.setIfInBounds_toArray, List.set_cons_zero, List.set_cons_succ]
        refine wpAnyH_take (i := 10) (v := ?_) rfl (by kernel_rfl) (by kernel_rfl) (by kernel_rfl) (fun _ _ _ h => h) (Or.inl ⟨by rfl, ?_⟩) (by assumption) ?_
        rotate_left
        · (intro w hSw; (try dsimp only at hSw); go_simp; (try with_reducible rfl))
        simp only [Act.put, List.setIfInBounds_toArray, List.set_cons_zero, List.set_cons_succ]
        refine wpAnyH_take (i := 11) (v := ?_) rfl (by kernel_rfl) (by kernel_rfl) (by kernel_rfl) (fun _ _ _ h => h) (Or.inl ⟨by rfl, ?_⟩) (by assumption) ?_
        rotate_left
        · (intro w hSw; (try dsimp only at hSw); go_simp; (try with_reducible rfl))
        simp only [Act.put, List.setIfInBounds_toArray, List.set_cons_zero, List.set_cons_succ]
        refine wpAnyH_take (i := 12) (v := ?_) rfl (by kernel_rfl) (by kernel_rfl) (by kernel_rfl) (fun _ _ _ h => h) (Or.inl ⟨by rfl, ?_⟩) (by assumption) ?_
        rotate_left
        · (intro w hSw; (try dsimp only at hSw); go_simp; (try with_reducible rfl))
        simp only [Act.put, List.setIfInBounds_toArray, List.set_cons_zero, List.set_cons_succ]
        refine wpAnyH_take (i := 13) (v := ?_) rfl (by kernel_rfl) (by kernel_rfl) (by kernel_rfl) (fun _ _ _ h => h) (Or.inl ⟨by rfl, ?_⟩) (by assumption) ?_
        rotate_left
        · (intro w hSw; (try dsimp only at hSw); go_simp; (try with_reducible rfl))
        simp only [Act.put, List.setIfInBounds_toArray, List.set_cons_zero, List.set_cons_succ]
        refine wpAnyH_take (i := 14) (v := ?_) rfl (by kernel_rfl) (by kernel_rfl) (by kernel_rfl) (fun _ _ _ h => h) (Or.inl ⟨by rfl, ?_⟩) (by assumption) ?_
        rotate_left
        · (intro w hSw; (try dsimp only at hSw); go_simp; (try with_reducible rfl))
        simp only [Act.put, List.setIfInBounds_toArray, List.set_cons_zero, List.set_cons_succ]
        simp only [List.getElem_toArray, List.getElem_cons_succ, List.getElem_cons_zero]
        refine wpAnyH_ready (rs := [7]) (by kernel_rfl) (by simp) ?_
        refine AllReadyH.cons rfl (fun K hK => ?_) AllReadyH.nil
        go_simp
        refine (l01Dec_any a (by omega) W5).mono ?_
        rintro e w6 ⟨rfl, hb6⟩
        have hS6 := And.intro (below_cell hb6 hS.1) (And.intro (below_cell hb6 hS.2.1) (below_cell hb6 hS.2.2))
        dsimp only
        refine hK.out _ _ hS6 (fun hS2 => ?_)
        clear hK K
        refine wpAnyH_take (i := 8) (v := ?_) rfl (by kernel_rfl) (by kernel_rfl) (by kernel_rfl) (fun _ _ _ h => h) (Or.inl ⟨by rfl, ?_⟩) (by assumption) ?_
        rotate_left
        · (intro w hSw; (try dsimp only at hSw); go_simp; (try with_reducible rfl))
        simp only [Act.put, List.setIfInBounds_toArray, List.set_cons_zero, List.set_cons_succ]
        simp only [List.getElem_toArray, List.getElem_cons_succ, List.getElem_cons_zero, Act.put, List.setIfInBounds_toArray, List.set_cons_zero, List.set_cons_succ]
        refine wpAnyH_ready (rs := [15]) (by kernel_rfl) (by simp) ?_
        refine AllReadyH.cons rfl (fun K hK => ?_) AllReadyH.nil
        go_simp
        refine (l01Dec_any b (by omega) w6).mono ?_
        rintro e w7 ⟨rfl, hb7⟩
        have hS7 := And.intro (below_cell hb7 hS6.1) (And.intro (below_cell hb7 hS6.2.1) (below_cell hb7 hS6.2.2))
        dsimp only
        refine hK.out _ _ hS7 (fun hS3 => ?_)
        clear hK K
        refine wpAnyH_take (i := 16) (v := ?_) rfl (by kernel_rfl) (by kernel_rfl) (by kernel_rfl) (fun _ _ _ h => h) (Or.inl ⟨by rfl, ?_⟩) (by assumption) ?_
        rotate_left
        · (intro w hSw; (try dsimp only at hSw); go_simp; (try with_reducible rfl))
        simp only [Act.put, List.setIfInBounds_toArray, List.set_cons_zero, List.set_cons_succ]
        simp only [List.getElem_toArray, List.getElem_cons_succ, List.getElem_cons_zero, Act.put, List.setIfInBounds_toArray, List.set_cons_zero, List.set_cons_succ]
        refine wpAnyH_done (by kernel_rfl) ?_ _
        dsimp only [atEnd]
        have hb67 := hb6.trans (hb7.mono hb6.size)
        go_wp2
        go_roundw
        case rel => exact ⟨k + 1, by omega, by go_num, by rw [HN.out]; rfl, hB5.out.after hb67, hbw5.trans (hb67.mono hbw5.size)⟩
        case measure => simp [intOf]; omega
      · have HN := Lib.hid (show P0 ++ joinS ((es.take (k + 1)).map edgeT) comma = ((P0 ++ joinS ((es.take k).map edgeT) comma) ++ comma) ++ edgeT ((a : Int), (b : Int)) by
          rw [← hst, joinS_snoc, ba_assoc P0, ba_assoc, ba_assoc, ba_assoc]
          intro e
          have := congrArg List.length e
          rw [List.length_map, List.length_take] at this
          simp only [List.length_nil] at this
          omega)
        generalize P0 ++ joinS ((es.take k).map edgeT) comma = T at *
        have q0 : 0 < (k : Int) := by omega
        have q3 : ¬ 9223372036854775807 < T.size + 1 := by omega
        have q4 : ¬ 9223372036854775807 < T.size + 1 + ((dcS (a : Int)).size + 1 + (dcS (b : Int)).size) := by omega
        clear hst hk0
        go_wp2
        refine region_suf (P := Tryz.prog) (n := 17) (S := fun w' => w'.cell? ⟨w.heap.size, 1, none⟩ = some (.slice (some ⟨g, o, none⟩) m d) ∧ w'.cell? ⟨g, o + k * 2, none⟩ = some (.int .i64 (a : Nat)) ∧ w'.cell? ⟨g, o + k * 2 + 1, none⟩ = some (.int .i64 (b : Nat))) (by kernel_rfl) (by simp only [List.take_succ_cons, List.take_zero]; rfl) (by simp only [List.drop_succ_cons, List.drop_zero]; rfl) (by kernel_rfl) (by simpa using ⟨x1, h1, h2⟩) ?_
        intro hS
        generalize wr.drew = W5 at *
        refine wpAnyH_take (i := 0) (v := ?_) rfl (by kernel_rfl) (by kernel_rfl) (by kernel_rfl) (fun _ _ _ h => h) (Or.inl ⟨by rfl, ?_⟩) (by assumption) ?_
        rotate_left
        · (intro w hSw; (try dsimp only at hSw); go_simp; (try with_reducible rfl))
        simp only [Act.put, List.setIfInBounds_toArray, List.set_cons_zero, List.set_cons_succ]
        refine wpAnyH_take (i := 1) (v := ?_) rfl (by kernel_rfl) (by kernel_rfl) (by kernel_rfl) (fun _ _ _ h => h) (Or.inl ⟨by rfl, ?_⟩) (by assumption) ?_
        rotate_left
        · (intro w hSw; (try dsimp only at hSw); go_simp; (try with_reducible rfl))
        simp only [Act.put, List.setIfInBounds_toArray, List.set_cons_zero, List.set_cons_succ]
        refine wpAnyH_take (i := 2) (v := ?_) rfl (by kernel_rfl) (by kernel_rfl) (by kernel_rfl) (fun _ _ _ h => h) (Or.inl ⟨by rfl, ?_⟩) (by assumption) ?_
        rotate_left
        · (intro w hSw; (try dsimp only at hSw); go_simp; (try with_reducible rfl))
        simp only [Act.put, List.setIfInBounds_toArray, List.set_cons_zero, List.set_cons_succ]
        refine wpAnyH_take (i := 3) (v := ?_) rfl (by kernel_rfl) (by kernel_rfl) (by kernel_rfl) (fun _ _ _ h => h) (Or.inl ⟨by rfl, ?_⟩) (by assumption) ?_
        rotate_left
        · (intro w hSw; (try dsimp only at hSw); go_simp; (try with_reducible rfl))
        simp only [Act.put, List.setIfInBounds_toArray, List.set_cons_zero, List.set_cons_succ]
        refine wpAnyH_take (i := 4) (v := ?_) rfl (by kernel_rfl) (by kernel_rfl) (by kernel_rfl) (fun _ _ _ h => h) (Or.inl ⟨by rfl, ?_⟩) (by assumption) ?_
        rotate_left
        · (intro w hSw; (try dsimp only at hSw); go_simp; (try with_reducible rfl))
        simp only [Act.put, List.setIfInBounds_toArray, List.set_cons_zero, List.set_cons_succ]
        refine wpAnyH_take (i := 5) (v := ?_) rfl (by kernel_rfl) (by kernel_rfl) (by kernel_rfl) (fun _ _ _ h => h) (Or.inl ⟨by rfl, ?_⟩) (by assumption) ?_
        rotate_left
        · (intro w hSw; (try dsimp only at hSw); go_simp; (try with_reducible rfl))
        simp only [Act.put, List.setIfInBounds_toArray, List.set_cons_zero, List.set_cons_succ]
        refine wpAnyH_take (i := 6) (v := ?_) rfl (by kernel_rfl) (by kernel_rfl) (by kernel_rfl) (fun _ _ _ h => h) (Or.inl ⟨by rfl, ?_⟩) (by assumption) ?_
        rotate_left
        · (intro w hSw; (try dsimp only at hSw); go_simp; (try with_reducible rfl))
        simp only [Act.put, List.setIfInBounds_toArray, List.set_cons_zero, List.set_cons_succ]
        refine wpAnyH_take (i := 9) (v := ?_) rfl (by kernel_rfl) (by kernel_rfl) (by kernel_rfl) (fun _ _ _ h => h) (Or.inl ⟨by rfl, ?_⟩) (by assumption) ?_
        rotate_left
        · (intro w hSw; (try dsimp only at hSw); go_simp; (try with_reducible rfl))
        simp only [Act.put, List.setIfInBounds_toArray, List.set_cons_zero, List.set_cons_succ]
        refine wpAnyH_take (i := 10) (v := ?_) rfl (by kernel_rfl) (by kernel_rfl) (by kernel_rfl) (fun _ _ _ h => h) (Or.inl ⟨by rfl, ?_⟩) (by assumption) ?_
        rotate_left
        · (intro w hSw; (try dsimp only at hSw); go_simp; (try with_reducible rfl))
        simp only [Act.put, List.setIfInBounds_toArray, List.set_cons_zero, List.set_cons_succ]
        refine wpAnyH_take (i := 11) (v := ?_) rfl (by kernel_rfl) (by kernel_rfl) (by kernel_rfl) (fun _ _ _ h => h) (Or.inl ⟨by rfl, ?_⟩) (by assumption) ?_
        rotate_left
        · (intro w hSw; (try dsimp only at hSw); go_simp; (try with_reducible rfl))
        simp only [Act.put, List.setIfInBounds_toArray, List.set_cons_zero, List.set_cons_succ]
        refine wpAnyH_take (i := 12) (v := ?_) rfl (by kernel_rfl) (by kernel_rfl) (by kernel_rfl) (fun _ _ _ h => h) (Or.inl ⟨by rfl, ?_⟩) (by assumption) ?_
        rotate_left
        · (intro w hSw; (try dsimp only at hSw); go_simp; (try with_reducible rfl))
        simp only [Act.put, List.setIfInBounds_toArray, List.set_cons_zero, List.set_cons_succ]
        refine wpAnyH_take (i := 13) (v := ?_) rfl (by kernel_rfl) (by kernel_rfl) (by kernel_rfl) (fun _ _ _ h => h) (Or.inl ⟨by rfl, ?_⟩) (by assumption) ?_
        rotate_left
        · (intro w hSw; (try dsimp only at hSw); go_simp; (try with_reducible rfl))
        simp only [Act.put, List.setIfInBounds_toArray, List.set_cons_zero, List.set_cons_succ]
        refine wpAnyH_take (i := 14) (v := ?_) rfl (by kernel_rfl) (by kernel_rfl) (by kernel_rfl) (fun _ _ _ h => h) (Or.inl ⟨by rfl, ?_⟩) (by assumption) ?_
        rotate_left
        · (intro w hSw; (try dsimp only at hSw); go_simp; (try with_reducible rfl))
        simp only [Act.put, List.setIfInBounds_toArray, List.set_cons_zero, List.set_cons_succ]
        simp only [List.getElem_toArray, List.getElem_cons_succ, List.getElem_cons_zero]
        refine wpAnyH_ready (rs := [7]) (by kernel_rfl) (by simp) ?_
        refine AllReadyH.cons rfl (fun K hK => ?_) AllReadyH.nil
        go_simp
        refine (l01Dec_any a (by omega) W5).mono ?_
        rintro e w6 ⟨rfl, hb6⟩
        have hS6 := And.intro (below_cell hb6 hS.1) (And.intro (below_cell hb6 hS.2.1) (below_cell hb6 hS.2.2))
        dsimp only
        refine hK.out _ _ hS6 (fun hS2 => ?_)
        clear hK K
        refine wpAnyH_take (i := 8) (v := ?_) rfl (by kernel_rfl) (by kernel_rfl) (by kernel_rfl) (fun _ _ _ h => h) (Or.inl ⟨by rfl, ?_⟩) (by assumption) ?_
        rotate_left
        · (intro w hSw; (try dsimp only at hSw); go_simp; (try with_reducible rfl))
        simp only [Act.put, List.setIfInBounds_toArray, List.set_cons_zero, List.set_cons_succ]
        simp only [List.getElem_toArray, List.getElem_cons_succ, List.getElem_cons_zero, Act.put, List.setIfInBounds_toArray, List.set_cons_zero, List.set_cons_succ]
        refine wpAnyH_ready (rs := [15]) (by kernel_rfl) (by simp) ?_
        refine AllReadyH.cons rfl (fun K hK => ?_) AllReadyH.nil
        go_simp
        refine (l01Dec_any b (by omega) w6).mono ?_
        rintro e w7 ⟨rfl, hb7⟩
        have hS7 := And.intro (below_cell hb7 hS6.1) (And.intro (below_cell hb7 hS6.2.1) (below_cell hb7 hS6.2.2))
        dsimp only
        refine hK.out _ _ hS7 (fun hS3 => ?_)
        clear hK K
        refine wpAnyH_take (i := 16) (v := ?_) rfl (by kernel_rfl) (by kernel_rfl) (by kernel_rfl) (fun _ _ _ h => h) (Or.inl ⟨by rfl, ?_⟩) (by assumption) ?_
        rotate_left
        · (intro w hSw; (try dsimp only at hSw); go_simp; (try with_reducible rfl))
        simp only [Act.put, List.setIfInBounds_toArray, List.set_cons_zero, List.set_cons_succ]
        simp only [List.getElem_toArray, List.getElem_cons_succ, List.getElem_cons_zero, Act.put, List.setIfInBounds_toArray, List.set_cons_zero, List.set_cons_succ]
        refine wpAnyH_done (by kernel_rfl) ?_ _
        dsimp only [atEnd]
        have hb67 := hb6.trans (hb7.mono hb6.size)
        go_wp2
        go_roundw
        case rel => exact ⟨k + 1, by omega, by go_num, by rw [HN.out]; rfl, hB5.out.after hb67, hbw5.trans (hb67.mono hbw5.size)⟩
        case measure => simp [intOf]; omega
    · obtain rfl : k = m := by omega
      rw [List.take_of_length_le (by omega)]
      go_wp2
      go_ret
      exact ⟨by rw [HG.out]; rfl, hb⟩
end Go.Proofs.YtkihflnenifcgaaGreatDoor
/- Permutations as lists, plain. No program in sight. -/
namespace Go.Proofs.YtkihflnenifcgaaGreatDoor

def relTo (cs p : List Int) (k : Nat) : List Int := (List.range k).foldl (fun acc v => acc.set (nth p v).toNat (nth cs v)) (List.replicate cs.length 0)
def relC (cs p : List Int) : List Int := relTo cs p cs.length
theorem relTo_zero (cs p : List Int) : relTo cs p 0 = List.replicate cs.length 0 := rfl
theorem relTo_step (cs p : List Int) (k : Nat) : relTo cs p (k + 1) = (relTo cs p k).set (nth p k).toNat (nth cs k) := by simp [relTo, List.range_succ, List.foldl_append]
theorem relTo_len (cs p : List Int) (k : Nat) : (relTo cs p k).length = cs.length := by
  induction k with
  | zero => simp [relTo]
  | succ k ih => rw [relTo_step, List.length_set, ih]
/-! permutations as lists -/
theorem perm_inj {p : List Int} (h : Perm p) {i j : Nat} (hi : i < p.length) (hj : j < p.length) (he : nth p i = nth p j) : i = j := by
  rcases Nat.lt_trichotomy i j with h1 | h1 | h1
  · exact absurd he (h.ne i j h1 hj)
  · exact h1
  · exact absurd he.symm (h.ne j i h1 hi)
def iotaP (n : Nat) : List Int := (List.range n).map fun (k : Nat) => (k : Int)
theorem iotaP_len (n : Nat) : (iotaP n).length = n := by simp [iotaP]
theorem iotaP_nth {n k : Nat} (h : k < n) : nth (iotaP n) k = k := by rw [nth_get (by rw [iotaP_len]; exact h)]; simp [iotaP]
theorem nth_ext {l m : List Int} (hl : l.length = m.length) (h : ∀ k, k < l.length → nth l k = nth m k) : l = m := by
  apply List.ext_getElem hl
  intro k h1 h2
  have := h k h1
  rwa [nth_get h1, nth_get h2] at this
theorem nth_set {l : List Int} {i j : Nat} {x : Int} (hj : j < l.length) : nth (l.set i x) j = if i = j then x else nth l j := by
  rw [nth_get (by simpa using hj), List.getElem_set]
  split
  · rfl
  · rw [nth_get hj]
theorem perm_iota {p : List Int} (h : Perm p) : p.Perm (iotaP p.length) := by
  have h1 := perm_inOrder h
  have h2 : srt p = iotaP p.length := nth_ext (by rw [srt_len, iotaP_len]) fun k hk => by
    rw [srt_len] at hk
    rw [h1 k hk, iotaP_nth hk]
  rw [← h2]
  exact (srt_perm p).symm
theorem perm_surj {p : List Int} (h : Perm p) {i : Nat} (hi : i < p.length) : ∃ v, v < p.length ∧ nth p v = i := by
  have : (i : Int) ∈ p := (perm_iota h).mem_iff.2 (by unfold iotaP; exact List.mem_map.2 ⟨i, by simpa using hi, rfl⟩)
  exact mem_nth this
theorem perm_lt {p : List Int} (h : Perm p) {v : Nat} (hv : v < p.length) : (nth p v).toNat < p.length ∧ ((nth p v).toNat : Int) = nth p v := by
  have := h.bd v hv
  omega
theorem relTo_nth {cs p : List Int} (hp : Perm p) (hl : p.length = cs.length) : ∀ (k : Nat), k ≤ cs.length → ∀ v, v < k → nth (relTo cs p k) (nth p v).toNat = nth cs v
  | 0, _, v, h => absurd h (by omega)
  | k + 1, hk, v, hv => by
    have b := perm_lt hp (v := v) (by omega)
    have b' := perm_lt hp (v := k) (by omega)
    rw [relTo_step, nth_set (by rw [relTo_len]; omega)]
    by_cases e : k = v
    · subst e
      rw [if_pos rfl]
    · rw [if_neg (fun h => e (perm_inj hp (by omega) (by omega) (by omega)))]
      exact relTo_nth hp hl k (by omega) v (by omega)
theorem relC_nth {cs p : List Int} (hp : Perm p) (hl : p.length = cs.length) {v : Nat} (hv : v < cs.length) : nth (relC cs p) (nth p v).toNat = nth cs v := relTo_nth hp hl _ (Nat.le_refl _) v hv
theorem relC_len (cs p : List Int) : (relC cs p).length = cs.length := relTo_len cs p _
/-- first p, then q -/
def thenP (p q : List Int) : List Int := p.map fun x => nth q x.toNat
theorem thenP_len (p q : List Int) : (thenP p q).length = p.length := by simp [thenP]
theorem thenP_nth {p q : List Int} {v : Nat} (hv : v < p.length) : nth (thenP p q) v = nth q (nth p v).toNat := by
  rw [nth_get (by rw [thenP_len]; exact hv), nth_get hv]
  simp [thenP]
def invP (p : List Int) : List Int := relC (iotaP p.length) p
theorem invP_len (p : List Int) : (invP p).length = p.length := by rw [invP, relC_len, iotaP_len]
theorem invP_nth {p : List Int} (hp : Perm p) {v : Nat} (hv : v < p.length) : nth (invP p) (nth p v).toNat = v := by
  rw [invP, relC_nth hp (by rw [iotaP_len]) (by rw [iotaP_len]; exact hv), iotaP_nth hv]
theorem perm_of {n : Nat} {p : List Int} (hl : p.length = n) (hb : ∀ v, v < n → 0 ≤ nth p v ∧ nth p v < n) (hi : ∀ u v, u < n → v < n → nth p u = nth p v → u = v) : Perm p :=
  ⟨fun k hk => by rw [hl] at hk ⊢; exact hb k hk, fun i j hij hj e => by have := hi i j (by omega) (by omega) e; omega⟩
theorem thenP_perm {p q : List Int} (hp : Perm p) (hq : Perm q) (hl : p.length = q.length) : Perm (thenP p q) := by
  refine perm_of (thenP_len p q) (fun v hv => ?_) (fun u v hu hv e => ?_)
  · rw [thenP_nth hv]
    have := perm_lt hp hv
    have := hq.bd (nth p v).toNat (by omega)
    omega
  · rw [thenP_nth hu, thenP_nth hv] at e
    have a := perm_lt hp hu
    have b := perm_lt hp hv
    have := perm_inj hq (by omega) (by omega) e
    exact perm_inj hp hu hv (by omega)
theorem invP_right {p : List Int} (hp : Perm p) {i : Nat} (hi : i < p.length) : nth p (nth (invP p) i).toNat = i := by
  obtain ⟨v, hv, e⟩ := perm_surj hp hi
  have := invP_nth hp hv
  rw [e] at this
  simp at this
  rw [this]
  simpa using e
theorem invP_perm {p : List Int} (hp : Perm p) : Perm (invP p) := by
  refine perm_of (invP_len p) (fun v hv => ?_) (fun u v hu hv e => ?_)
  · obtain ⟨u, hu, e⟩ := perm_surj hp hv
    have := invP_nth hp hu
    rw [e] at this
    simp at this
    rw [this]
    omega
  · have a := invP_right hp hu
    have b := invP_right hp hv
    rw [e, b] at a
    omega
theorem iotaP_perm (n : Nat) : Perm (iotaP n) := by
  refine perm_of (iotaP_len n) (fun v hv => ?_) (fun u v hu hv e => ?_)
  · rw [iotaP_nth hv]; omega
  · rw [iotaP_nth hu, iotaP_nth hv] at e; omega
end Go.Proofs.YtkihflnenifcgaaGreatDoor
