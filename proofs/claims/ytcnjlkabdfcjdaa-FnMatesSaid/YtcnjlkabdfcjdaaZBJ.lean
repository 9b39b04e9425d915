/- MateOf: its tables are set up. No condition beyond those stated. -/
import Derived.Test.YtcnjlkabdfcjdaaZBI
import Derived.Test.YtcnjlkabdfcjdaaZBC
import Derived.Test.YtcnjlkabdfcjdaaZAW
set_option linter.unusedVariables false
set_option linter.unusedSimpArgs false
namespace Go.Proofs.Ytcnjlkabdfcjdaa
open Go.RowKit

section
variable {w w' : World} {B : Nat} {eo eb : TypeId} {A : Option Addr} {n c m : Nat} {vs : List Sl} {f : Nat → Nat → Bool}
theorem TBv.pushV (h : TBv w B eo eb A n c vs m f) {v : Sl} (hm : v.2.1 = m) (ho : OS w B eb 1 v.1 v.2.1 v.2.2 (bools m (f n))) (hap : ∀ (j : Nat) (u : Sl), vs[j]? = some u → apart u v)
    {A' : Option Addr} {c' : Nat} (hg : w.grownBy w' (blk A)) (hos : OS w' B eo 1 A' (n + 1) c' (vs.map slv ++ [.slice v.1 v.2.1 v.2.2])) : TBv w' B eo eb A' (n + 1) c' (vs ++ [v]) m f := by
  have hvA : blk v.1 = none ∨ blk v.1 ≠ blk A := OS.typed ho h.os (fun e => h.ne e.symm)
  have hlen := h.len
  refine ⟨by simpa [slv] using hos, fun j u hu => ?_, fun i j u x hij hu hx => ?_, h.ne⟩
  · rw [List.getElem?_append] at hu
    split at hu
    · exact ⟨(h.rows j u hu).1, (h.rows j u hu).2.kept hg (h.outer_row hu)⟩
    · have hj := (List.getElem?_eq_some_iff.1 hu).1
      simp at hj
      have e : j = n := by omega
      rw [e, hlen, Nat.sub_self] at hu
      simp at hu
      subst hu
      subst e
      exact ⟨hm, ho.kept hg hvA⟩
  · rw [List.getElem?_append] at hu hx
    split at hu
    · split at hx
      · exact h.sep i j u x hij hu hx
      · have : x = v := by simpa using List.mem_of_getElem? hx
        subst this
        exact hap i u hu
    · have hu' : u = v := by simpa using List.mem_of_getElem? hu
      subst hu'
      split at hx
      · exact (hap j x hx).symm
      · have a1 := (List.getElem?_eq_some_iff.1 hu).1
        have a2 := (List.getElem?_eq_some_iff.1 hx).1
        simp at a1 a2
        omega
end
theorem bool_infoM : (Try.prog.info? 4).map (fun i => (i.zero, i.size, i.bytes)) = some (some (.bool false), 1, 1) := by kernel_rfl
theorem bools_infoM : (Try.prog.info? 57).map (fun i => (i.zero, i.size, i.bytes)) = some (some (.slice none 0 0), 1, 24) := by kernel_rfl
/-- one row of truth values more, its literal made some time before -/
theorem app_tabR {ops : Array Oper} {rest : List Oper} {o : Oper} {a : Act} {Q : Exit → Act → World → Prop} (w : World) (hgd : o.guard = none) (s x : Operand) (ho : o.op = .call { callee := .builtin .append, args := #[s, x], argTypes := #[82, 82] })
    (B : Nat) (A : Option Addr) (n c m : Nat) (vs : List Sl) (f : Nat → Nat → Bool) (hs : a.eval s = .slice A n c) (hown : TBv w B 57 4 A n c vs m f) (v : Sl) (hm : v.2.1 = m) (hv : OS w B 4 1 v.1 v.2.1 v.2.2 (bools m (f n))) (hap : ∀ (j : Nat) (u : Sl), vs[j]? = some u → apart u v)
    (g : Nat) (hx : a.eval x = .slice (some ⟨g, 0, none⟩) 1 1) (hg : w.cell? ⟨g, 0, none⟩ = some (.slice v.1 v.2.1 v.2.2)) (hbig : n + 1 ≤ 2199023255552) (hB : B ≤ w.heap.size)
    (h : ∀ A' c' w', TBv w' B 57 4 A' (n + 1) c' (vs ++ [v]) m f → w.grownBy w' (blk A) → (blk A' = blk A ∨ blk A' = some w.heap.size) → wpList Try.prog ops Q rest (a.put o.dst (.slice A' (n + 1) c')) w') :
    wpList Try.prog ops Q (o :: rest) a w :=
  wpList_app w hgd s x 82 ho 57 (.slice none 0 0) 1 24 Try.underlying82 bools_infoM rfl (by omega) (by omega) B A n c (vs.map slv) hs hown.os (some ⟨g, 0, none⟩) 1 1 [.slice v.1 v.2.1 v.2.2] hx rfl
    (fun j u hu => by
      have hj : j = 0 := by
        have := (List.getElem?_eq_some_iff.1 hu).1
        simp at this; exact this
      subst hj
      simp at hu
      subst hu
      exact ⟨_, rfl, by rw [show (⟨g, 0, none⟩ : Addr).add 0 = ⟨g, 0, none⟩ from by simp [Addr.add]]; exact hg⟩) (fun u hu => by simp at hu; subst hu; rfl) hbig hB
    fun A' c' w' h1 h2 h3 => h A' c' w' (hown.pushV hm hv hap h2 h1) h2 h3
def FF : Nat → Nat → Bool := fun _ _ => false
/-- the tables while they are made: the first k rows, all of them empty -/
structure M9 (w0 wx : World) (D g n : Nat) (SA : Option Addr) (sc : Nat) (a : List (List Int)) (MA : Option Addr) (mc : Nat) (vm : List Sl) (P : List (List Int)) (XC : Option Addr) (xc : Nat) (XY : Option Addr) (xy k : Nat) (CA : Option Addr) (kc cc : Nat) (vc : List Sl) (YA : Option Addr) (ky yc : Nat) (vy : List Sl) (left : Nat) : Prop where
  x : Blk wx g 84 #[.int .i64 (left : Int), .bool false, .slice SA n sc, .slice MA n mc, .slice XC k xc, .slice XY k xy]
  b : Below w0.heap.size w0 wx
  o0 : RR w0 SA n a
  m : ORv wx w0.heap.size 30 2 MA n mc vm P
  c : TBv wx w0.heap.size 57 4 CA kc cc vc n FF
  y : TBv wx w0.heap.size 57 4 YA ky yc vy n FF
  sep : ∀ (i j : Nat) (v u : Sl), vc[i]? = some v → vy[j]? = some u → apart v u
  hs : blk CA = none ∨ blk CA ≠ blk YA
  gB : w0.heap.size ≤ g
  z : D ≤ wx.heap.size
  zB : w0.heap.size ≤ D
section
variable {w0 wx w' : World} {D g n : Nat} {SA : Option Addr} {sc : Nat} {a : List (List Int)} {MA : Option Addr} {mc : Nat} {vm : List Sl} {P : List (List Int)} {XC : Option Addr} {xc : Nat} {XY : Option Addr} {xy k : Nat} {CA CA' : Option Addr} {kc cc kc' cc' : Nat} {vc vc' : List Sl} {YA YA' : Option Addr} {ky yc ky' yc' : Nat} {vy vy' : List Sl} {left : Nat}
theorem M9.below (h : M9 w0 wx D g n SA sc a MA mc vm P XC xc XY xy k CA kc cc vc YA ky yc vy left) (hb : Below wx.heap.size wx w') : M9 w0 w' D g n SA sc a MA mc vm P XC xc XY xy k CA kc cc vc YA ky yc vy left :=
  ⟨h.x.after hb, h.b.trans (hb.mono h.b.size), h.o0, h.m.below hb, h.c.below hb, h.y.below hb, h.sep, h.hs, h.gB, Nat.le_trans h.z hb.size, h.zB⟩
theorem M9.loads (h : M9 w0 wx D g n SA sc a MA mc vm P XC xc XY xy k CA kc cc vc YA ky yc vy left) : wx.cell? ⟨g, 4, none⟩ = some (.slice XC k xc) ∧ wx.cell? ⟨g, 5, none⟩ = some (.slice XY k xy) := ⟨h.x.cell 4, h.x.cell 5⟩
/-- a row of truth values made in the region -/
def NR (wx : World) (D r n : Nat) : Prop := OS wx D 4 1 (some ⟨r, 0, none⟩) n n (bools n fun _ => false)
theorem NR.below {r : Nat} (h : NR wx D r n) (hb : Below wx.heap.size wx w') : NR w' D r n := OS.below h hb
theorem NR.lo {r : Nat} (h : NR wx D r n) : D ≤ r ∧ r < wx.heap.size := OS.lt h rfl
theorem NR.made (wx : World) (D n : Nat) (hD : D ≤ wx.heap.size) (hn : n ≤ 1000) : NR (wx.alloc (.cells (madeCells #[.bool false] n) 4)) D wx.heap.size n := by
  have := OS.made wx D 4 (.bool false) n hD (by omega)
  rw [bools_false] at this
  exact this
/-- the literal that holds it -/
structure LB (wx : World) (D q r n : Nat) : Prop where
  lo : D ≤ q
  b : Blk wx q 57 #[.slice (some ⟨r, 0, none⟩) n n]
theorem LB.new (wx : World) (D r n : Nat) (h : D ≤ wx.heap.size) : LB (wx.alloc (.cells #[.slice (some ⟨r, 0, none⟩) n n] 57)) D wx.heap.size r n := ⟨h, Blk.new _ _ _⟩
theorem LB.below {q r : Nat} (h : LB wx D q r n) (hb : Below wx.heap.size wx w') : LB w' D q r n := ⟨h.lo, h.b.after hb⟩
theorem LB.cell {q r : Nat} (h : LB wx D q r n) : wx.cell? ⟨q, 0, none⟩ = some (.slice (some ⟨r, 0, none⟩) n n) := h.b.cell 0
theorem LB.grown {q r : Nat} (h : LB wx D q r n) {A : Option Addr} (hg : wx.grownBy w' (blk A)) (hl : ∀ b, blk A = some b → b < D) : LB w' D q r n := ⟨h.lo, h.b.grown hg fun e => by have := hl _ e.symm; have := h.lo; omega⟩
theorem NR.grown {r : Nat} (h : NR wx D r n) {A : Option Addr} (hg : wx.grownBy w' (blk A)) (hl : ∀ b, blk A = some b → b < D) : NR w' D r n :=
  OS.kept h hg (.inr fun e => by have := hl r e.symm; have := h.lo; omega)
/-- the columns' table has grown -/
theorem M9.pushC (h : M9 w0 wx D g n SA sc a MA mc vm P XC xc XY xy k CA kc cc vc YA ky yc vy left) {r : Nat} (ho : TBv w' w0.heap.size 57 4 CA' (kc + 1) cc' (vc ++ [(some ⟨r, 0, none⟩, n, n)]) n FF) (hg : wx.grownBy w' (blk CA)) (hf : blk CA' = blk CA ∨ blk CA' = some wx.heap.size)
    (hr : D ≤ r) (hvy : ∀ (j : Nat) (u : Sl) (b : Nat), vy[j]? = some u → blk u.1 = some b → b < D) : M9 w0 w' D g n SA sc a MA mc vm P XC xc XY xy k CA' (kc + 1) cc' (vc ++ [(some ⟨r, 0, none⟩, n, n)]) YA ky yc vy left := by
  refine ⟨h.x.grown hg (h.x.apartM h.c.os (by decide)), below_own h.b hg h.b.size (fun b hb => (h.c.os.lt hb).1), h.o0, ?_, ho, ?_, fun i j v u hv hu => ?_, ?_, h.gB, Nat.le_trans h.z hg.size, h.zB⟩
  · exact h.m.kept hg (OS.typed h.m.os h.c.os (by decide)) fun i u hu => OS.typed (h.m.rows i u _ hu (List.getElem?_eq_getElem (by rw [← h.m.len]; exact (List.getElem?_eq_some_iff.1 hu).1))).os h.c.os (by decide)
  · refine h.y.kept hg ?_ fun i u hu => OS.typed (h.y.rows i u hu).2 h.c.os (by decide)
    rcases h.hs with e | e
    · by_cases e2 : blk YA = none
      · exact .inl e2
      · exact .inr (by rw [e]; exact e2)
    · exact .inr fun e2 => e e2.symm
  · rw [List.getElem?_append] at hv
    split at hv
    · exact h.sep i j v u hv hu
    · have e : v = (some ⟨r, 0, none⟩, n, n) := by simpa using List.mem_of_getElem? hv
      subst e
      refine .inr fun e2 => ?_
      have := hvy j u r hu e2.symm
      omega
  · rcases hf with e | e
    · rw [e]; exact h.hs
    · refine .inr fun e2 => ?_
      rw [e] at e2
      have := (h.y.os.lt e2.symm).2
      omega
/-- the symbols' table has grown -/
theorem M9.pushY (h : M9 w0 wx D g n SA sc a MA mc vm P XC xc XY xy k CA kc cc vc YA ky yc vy left) {r : Nat} (ho : TBv w' w0.heap.size 57 4 YA' (ky + 1) yc' (vy ++ [(some ⟨r, 0, none⟩, n, n)]) n FF) (hg : wx.grownBy w' (blk YA)) (hf : blk YA' = blk YA ∨ blk YA' = some wx.heap.size)
    (hvc : ∀ (j : Nat) (u : Sl), vc[j]? = some u → blk u.1 ≠ some r) : M9 w0 w' D g n SA sc a MA mc vm P XC xc XY xy k CA kc cc vc YA' (ky + 1) yc' (vy ++ [(some ⟨r, 0, none⟩, n, n)]) left := by
  refine ⟨h.x.grown hg (h.x.apartM h.y.os (by decide)), below_own h.b hg h.b.size (fun b hb => (h.y.os.lt hb).1), h.o0, ?_, ?_, ho, fun i j v u hv hu => ?_, ?_, h.gB, Nat.le_trans h.z hg.size, h.zB⟩
  · exact h.m.kept hg (OS.typed h.m.os h.y.os (by decide)) fun i u hu => OS.typed (h.m.rows i u _ hu (List.getElem?_eq_getElem (by rw [← h.m.len]; exact (List.getElem?_eq_some_iff.1 hu).1))).os h.y.os (by decide)
  · exact h.c.kept hg h.hs fun i u hu => OS.typed (h.c.rows i u hu).2 h.y.os (by decide)
  · rw [List.getElem?_append] at hu
    split at hu
    · exact h.sep i j v u hv hu
    · have e : u = (some ⟨r, 0, none⟩, n, n) := by simpa using List.mem_of_getElem? hu
      subst e
      exact .inr fun e2 => hvc i v hv e2
  · rcases hf with e | e
    · rw [e]; exact h.hs
    · by_cases e3 : blk CA = none
      · exact .inl e3
      · refine .inr fun e2 => ?_
        rw [e] at e2
        have := (h.c.os.lt e2).2
        omega
theorem M9.rebase (h : M9 w0 wx D g n SA sc a MA mc vm P XC xc XY xy k CA kc cc vc YA ky yc vy left) {D' : Nat} (hz : D' ≤ wx.heap.size) (hb : w0.heap.size ≤ D') : M9 w0 wx D' g n SA sc a MA mc vm P XC xc XY xy k CA kc cc vc YA ky yc vy left :=
  ⟨h.x, h.b, h.o0, h.m, h.c, h.y, h.sep, h.hs, h.gB, hz, hb⟩
/-- the first header stored -/
theorem M9.second (h : M9 w0 wx D g n SA sc a MA mc vm P XC xc XY xy k CA kc cc vc YA ky yc vy left) : (wx.setCell ⟨g, 4, none⟩ (.slice CA kc cc)).cell? ⟨g, 5, none⟩ = some (.slice XY k xy) ∧ (wx.setCell ⟨g, 4, none⟩ (.slice CA kc cc)).frozen? ⟨g, 5, none⟩ = false :=
  ⟨(h.x.set_ 4 (.slice CA kc cc)).cell 5, (h.x.set_ 4 (.slice CA kc cc)).frozen 5⟩
theorem M9.setg (h : M9 w0 wx D g n SA sc a MA mc vm P XC xc XY xy k CA kc cc vc YA ky yc vy left) (i : Nat) (u : Value) :
    Below w0.heap.size w0 (wx.setCell ⟨g, i, none⟩ u) ∧ ORv (wx.setCell ⟨g, i, none⟩ u) w0.heap.size 30 2 MA n mc vm P ∧ TBv (wx.setCell ⟨g, i, none⟩ u) w0.heap.size 57 4 CA kc cc vc n FF ∧ TBv (wx.setCell ⟨g, i, none⟩ u) w0.heap.size 57 4 YA ky yc vy n FF := by
  have hg : wx.grownBy (wx.setCell ⟨g, i, none⟩ u) (some g) := grown_set
  refine ⟨h.b.setCell h.gB _, ?_, ?_, ?_⟩
  · refine h.m.kept hg (.inr fun e => h.x.apartM h.m.os (by decide) e.symm) fun j v hv => .inr fun e => ?_
    have hj : j < P.length := by rw [← h.m.len]; exact (List.getElem?_eq_some_iff.1 hv).1
    exact h.x.apartM (h.m.rows j v _ hv (List.getElem?_eq_getElem hj)).os (by decide) e.symm
  · exact h.c.kept hg (.inr fun e => h.x.apartM h.c.os (by decide) e.symm) fun j v hv => .inr fun e => h.x.apartM (h.c.rows j v hv).2 (by decide) e.symm
  · exact h.y.kept hg (.inr fun e => h.x.apartM h.y.os (by decide) e.symm) fun j v hv => .inr fun e => h.x.apartM (h.y.rows j v hv).2 (by decide) e.symm
/-- both headers stored -/
theorem M9.stored (h : M9 w0 wx D g n SA sc a MA mc vm P XC xc XY xy k CA (k + 1) cc vc YA (k + 1) yc vy left) :
    M9 w0 ((wx.setCell ⟨g, 4, none⟩ (.slice CA (k + 1) cc)).setCell ⟨g, 5, none⟩ (.slice YA (k + 1) yc)) w0.heap.size g n SA sc a MA mc vm P CA cc YA yc (k + 1) CA (k + 1) cc vc YA (k + 1) yc vy left := by
  obtain ⟨a1, a2, a3, a4⟩ := h.setg 4 (.slice CA (k + 1) cc)
  have X1 := h.x.set_ 4 (.slice CA (k + 1) cc)
  have X2 := X1.set_ 5 (.slice YA (k + 1) yc)
  have hg : (wx.setCell ⟨g, 4, none⟩ (.slice CA (k + 1) cc)).grownBy ((wx.setCell ⟨g, 4, none⟩ (.slice CA (k + 1) cc)).setCell ⟨g, 5, none⟩ (.slice YA (k + 1) yc)) (some g) := grown_set
  refine ⟨X2, a1.setCell h.gB _, h.o0, ?_, ?_, ?_, h.sep, h.hs, h.gB, ?_, Nat.le_refl _⟩
  · refine a2.kept hg (.inr fun e => X1.apartM a2.os (by decide) e.symm) fun j v hv => .inr fun e => ?_
    have hj : j < P.length := by rw [← a2.len]; exact (List.getElem?_eq_some_iff.1 hv).1
    exact X1.apartM (a2.rows j v _ hv (List.getElem?_eq_getElem hj)).os (by decide) e.symm
  · exact a3.kept hg (.inr fun e => X1.apartM a3.os (by decide) e.symm) fun j v hv => .inr fun e => X1.apartM (a3.rows j v hv).2 (by decide) e.symm
  · exact a4.kept hg (.inr fun e => X1.apartM a4.os (by decide) e.symm) fun j v hv => .inr fun e => X1.apartM (a4.rows j v hv).2 (by decide) e.symm
  · simp [World.setCell]
    exact Nat.le_trans h.zB h.z
end
end Go.Proofs.Ytcnjlkabdfcjdaa
/- A region that draws its order, its last operations each one that waits for all before, but for one that may be taken first. Over any program. No condition beyond those stated. -/
namespace Go.Proofs.Ytcnjlkabdfcjdaa
open Go

section
variable {P : Program}
/-- every operation waits for earlier ones alone and has no guard; the last one waits for all others, at last -/
def lastX (X : List Nat) (md : Region.Mode) (l : List Oper) (oz : Oper) : Bool :=
  ((List.range l.length).all fun i => ((l[i]?).map fun o => o.guard.isNone && o.after.all fun e => !Region.binds md e || decide (e.on < i)).getD true) && oz.guard.isNone && ((List.range l.length).all fun i => X.contains i || (reachN md l oz 12).contains i) && oz.after.all fun e => !Region.binds md e || decide (e.on < l.length)
theorem lastX_op {X : List Nat} {md : Region.Mode} {l : List Oper} {oz : Oper} (h : lastX X md l oz = true) {i : Nat} {o : Oper} (hi : l[i]? = some o) : o.guard = none ∧ ∀ e ∈ o.after, Region.binds md e = true → e.on < i := by
  unfold lastX at h
  simp only [Bool.and_eq_true] at h
  have hl := (List.getElem?_eq_some_iff.1 hi).1
  have h1 := List.all_eq_true.1 h.1.1.1 i (List.mem_range.2 hl)
  rw [hi] at h1
  simp only [Option.map_some, Option.getD_some, Bool.and_eq_true] at h1
  refine ⟨by simpa using h1.1, fun e he hb => ?_⟩
  have := Array.all_eq_true_iff_forall_mem.1 h1.2 e he
  rw [hb] at this
  simpa using this
theorem lastX_z {X : List Nat} {md : Region.Mode} {l : List Oper} {oz : Oper} (h : lastX X md l oz = true) : oz.guard = none ∧ (∀ i, i < l.length → i ∈ X ∨ i ∈ reachN md l oz 12) ∧ ∀ e ∈ oz.after, Region.binds md e = true → e.on < l.length := by
  unfold lastX at h
  simp only [Bool.and_eq_true] at h
  refine ⟨by simpa using h.1.1.2, fun i hi => ?_, fun e he hb => ?_⟩
  · have h1 := List.all_eq_true.1 h.1.2 i (List.mem_range.2 hi)
    simpa using h1
  · have := Array.all_eq_true_iff_forall_mem.1 h.2 e he
    rw [hb] at this
    simpa using this
theorem wpAny_lastX {X : List Nat} {md : Region.Mode} {l : List Oper} {oz : Oper} {F : Act → World → Prop} {Q : Exit → Act → World → Prop} (hz : lastX X md l oz = true)
    (hF : ∀ a w, F a w → oz.wp P a w (Q .normal) Q ∨ (oz.asks P a w ∧ LetsOut Q)) : ∀ (fuel : Nat) (listed : Array Bool) (a : Act) (w : World), listed.size = l.length → Closed md l listed → (∀ i ∈ X, listed.getD i true = true) →
      wpAny P md l.toArray (atEnd F Q) fuel listed a w → wpAny P md (l ++ [oz]).toArray Q (fuel + 1) (listed.push false) a w := by
  obtain ⟨zg, zw, zl⟩ := lastX_z hz
  have small : ∀ {listed : Array Bool} {i : Nat}, listed.size = l.length → i < l.length → (i ∈ Region.ready md (l ++ [oz]).toArray (listed.push false) ↔ i ∈ Region.ready md l.toArray listed) := fun {listed i} hs hi => by
    rw [mem_ready, mem_ready, getD_push _ (by omega), op_left hi]
    refine and_congr_right fun _ => exists_congr fun o => and_congr_right fun ho => ?_
    have hon := (lastX_op hz (by simpa using ho)).2
    refine forall_congr' fun e => forall_congr' fun he => forall_congr' fun hb => ?_
    rw [getD_push _ (by have := hon e he hb; omega)]
  have dead : ∀ {listed : Array Bool}, listed.size = l.length → Region.ready md l.toArray listed = [] → ∀ i, i < l.length → listed.getD i true = true := fun {listed} hs hr i => by
    induction i using Nat.strongRecOn with
    | ind i ih =>
      intro hi
      cases hq : listed.getD i true with
      | true => rfl
      | false =>
        exfalso
        have : i ∈ Region.ready md l.toArray listed := by
          refine mem_ready.2 ⟨hq, l[i], by simp, fun e he hb => ?_⟩
          have hon := (lastX_op hz (i := i) (o := l[i]) (by simp)).2 e he hb
          have := ih e.on hon (by omega)
          rw [Array.getD_eq_getD_getElem?, Array.getElem?_eq_getElem (by omega)] at this ⊢
          simpa using this
        rw [hr] at this
        cases this
  have zready : ∀ {listed : Array Bool}, listed.size = l.length → Closed md l listed → (∀ i ∈ X, listed.getD i true = true) → (l.length ∈ Region.ready md (l ++ [oz]).toArray (listed.push false) ↔ ∀ i, i < l.length → listed.getD i true = true) := fun {listed} hs hc hX => by
    rw [mem_ready]
    constructor
    · rintro ⟨_, o, ho, h⟩ i hi
      rw [op_last] at ho
      injection ho with ho
      subst ho
      have key : ∀ e ∈ oz.after, Region.binds md e = true → listed.getD e.on true = true := fun e he hb => by
        have := h e he hb
        have hl := zl e he hb
        rw [getD_push _ (by omega)] at this
        rw [Array.getD_eq_getD_getElem?, Array.getElem?_eq_getElem (by omega)] at this ⊢
        simpa using this
      rcases zw i hi with h1 | h1
      · exact hX i h1
      · exact reach_listed hc key 12 i h1
    · intro h
      refine ⟨by simp [Array.getD_eq_getD_getElem?, ← hs], oz, op_last, fun e he hb => ?_⟩
      have hl := zl e he hb
      have := h e.on hl
      rw [getD_push _ (by omega)]
      rw [Array.getD_eq_getD_getElem?, Array.getElem?_eq_getElem (by omega)] at this ⊢
      simpa using this
  have beyond : ∀ {listed : Array Bool} {i : Nat}, i ∈ Region.ready md (l ++ [oz]).toArray (listed.push false) → i ≤ l.length := fun {listed i} h => by
    obtain ⟨_, o, ho, _⟩ := mem_ready.1 h
    have := (Array.getElem?_eq_some_iff.1 ho).1
    simp at this
    omega
  have setp : ∀ {listed : Array Bool} {i : Nat}, i < listed.size → (listed.push false).setIfInBounds i true = (listed.setIfInBounds i true).push false := fun {listed i} h => by
    apply Array.ext_getElem?
    intro k
    rw [Array.getElem?_push, Array.getElem?_setIfInBounds, Array.getElem?_setIfInBounds, Array.getElem?_push]
    simp only [Array.size_setIfInBounds, Array.size_push]
    by_cases e : i = k
    · subst e
      simp [Nat.ne_of_lt h, h, show i < listed.size + 1 from by omega]
    · rw [if_neg e, if_neg e]
  -- all others have come up
  have finish : ∀ (fuel : Nat) (listed : Array Bool) (a : Act) (w : World), listed.size = l.length → Closed md l listed → (∀ i ∈ X, listed.getD i true = true) → Region.ready md l.toArray listed = [] → F a w → wpAny P md (l ++ [oz]).toArray Q (fuel + 1) (listed.push false) a w := fun fuel listed a w hs hc hX hr hf => by
    have hall := dead hs hr
    have hzr := (zready hs hc hX).2 hall
    refine ⟨(fun h => by rw [h] at hzr; cases hzr), fun i hi => ?_⟩
    have hib := beyond hi
    rcases Nat.lt_or_ge i l.length with h1 | h1
    · have := (small hs h1).1 hi
      rw [hr] at this; cases this
    · have e : i = l.length := by omega
      subst e
      unfold wpOp
      rw [op_last]
      simp only
      rw [if_pos (by unfold Region.wanted; rw [zg])]
      refine (hF a w hf).imp (fun hq0 => Oper.wp_mono (fun a' w' hq => ?_) hq0) id
      have hnone : Region.ready md (l ++ [oz]).toArray ((listed.push false).setIfInBounds l.length true) = [] := by
        rw [List.eq_nil_iff_forall_not_mem]
        intro k hk
        obtain ⟨h2, o, ho, _⟩ := mem_ready.1 hk
        have hkl := (Array.getElem?_eq_some_iff.1 ho).1
        simp at hkl
        rcases Nat.lt_or_ge k l.length with h3 | h3
        · have := hall k h3
          rw [Array.getD_eq_getD_getElem?] at this h2
          rw [Array.getElem?_setIfInBounds_ne (by omega), Array.getElem?_push, if_neg (by omega)] at h2
          rw [this] at h2; cases h2
        · have e : k = l.length := by omega
          subst e
          rw [Array.getD_eq_getD_getElem?, Array.getElem?_setIfInBounds_self] at h2
          simp [hs] at h2
      cases fuel with
      | zero => exact ⟨hnone, hq⟩
      | succ f => exact ⟨fun _ => hq, by rw [hnone]; simp⟩
  intro fuel
  induction fuel with
  | zero => intro listed a w hs hc hX h; exact finish 0 listed a w hs hc hX h.1 h.2
  | succ f ih =>
    intro listed a w hs hc hX h
    by_cases hr : Region.ready md l.toArray listed = []
    · exact finish (f + 1) listed a w hs hc hX hr (h.1 hr)
    · obtain ⟨i0, hi0⟩ := List.exists_mem_of_ne_nil _ hr
      have hi0l : i0 < l.length := by
        obtain ⟨_, o, ho, _⟩ := mem_ready.1 hi0
        have := (Array.getElem?_eq_some_iff.1 ho).1
        simpa using this
      have hun := (mem_ready.1 hi0).1
      have hr' := (small hs hi0l).2 hi0
      refine ⟨(fun h0 => by rw [h0] at hr'; cases hr'), fun i hi => ?_⟩
      have hib := beyond hi
      rcases Nat.lt_or_ge i l.length with h1 | h1
      · have h2 := h.2 i ((small hs h1).1 hi)
        unfold wpOp at h2 ⊢
        rw [op_left h1]
        have hsome : l.toArray[i]? = some l[i] := by simp
        rw [hsome] at h2 ⊢
        simp only at h2 ⊢
        have hg := (lastX_op hz (i := i) (o := l[i]) (by simp)).1
        rw [if_pos (by unfold Region.wanted; rw [hg])] at h2 ⊢
        refine h2.imp (fun h3 => ?_) (fun h3 => ⟨h3.1, h3.2⟩)
        refine Oper.wp_mono (fun a' w' h4 => ?_) (wp_atEnd h3)
        rw [setp (by omega)]
        refine ih _ a' w' (by simpa using hs) (closed_set (by omega) hc ((small hs h1).1 hi)) (fun q hq => ?_) h4
        have hq2 := hX q hq
        rw [Array.getD_eq_getD_getElem?] at hq2 ⊢
        rw [Array.getElem?_setIfInBounds]
        split
        · first | rfl | (split <;> simp)
        · exact hq2
      · have e : i = l.length := by omega
        subst e
        have := (zready hs hc hX).1 hi i0 hi0l
        rw [Array.getD_eq_getD_getElem?, Array.getElem?_eq_getElem (by omega)] at this hun
        simp at this hun
        rw [this] at hun; cases hun
/-- each operation of the tail waits for all before it -/
def sufX (X : List Nat) (md : Region.Mode) : List Oper → List Oper → Bool
  | _, [] => true
  | l, o :: t => lastX X md l o && sufX X md (l ++ [o]) t
theorem wpAny_sufX {X : List Nat} {md : Region.Mode} {Q : Exit → Act → World → Prop} : ∀ (t l : List Oper) (fuel : Nat) (listed : Array Bool) (a : Act) (w : World), sufX X md l t = true → listed.size = l.length → Closed md l listed → (∀ i ∈ X, listed.getD i true = true) → (∀ i ∈ X, i < l.length) →
      wpAny P md l.toArray (atEnd (fun a w => wpList P #[] Q t a w) Q) fuel listed a w → ∃ listed', listed' = listed ++ Array.replicate t.length false ∧ wpAny P md (l ++ t).toArray Q (fuel + t.length) listed' a w := by
  intro t
  induction t with
  | nil =>
    intro l fuel listed a w _ _ _ _ _ h
    refine ⟨_, rfl, ?_⟩
    have e : atEnd (fun a w => wpList P #[] Q [] a w) Q = Q := by funext e a w; cases e <;> rfl
    rw [e] at h
    simpa using h
  | cons o t ih =>
    intro l fuel listed a w hz hs hc hX hXl h
    unfold sufX at hz
    rw [Bool.and_eq_true] at hz
    have hF : ∀ a w, wpList P #[] Q (o :: t) a w → o.wp P a w (atEnd (fun a w => wpList P #[] Q t a w) Q .normal) (atEnd (fun a w => wpList P #[] Q t a w) Q) ∨ (o.asks P a w ∧ LetsOut (atEnd (fun a w => wpList P #[] Q t a w) Q)) := fun a w h => by
      have hg := (lastX_z hz.1).1
      unfold wpList at h
      rw [if_pos (by unfold Region.wanted; rw [hg])] at h
      rcases h with h | ⟨h1, h2⟩
      · exact .inl (wp_toEnd h)
      · exact .inr ⟨h1, h2⟩
    have h1 := wpAny_lastX (Q := atEnd (fun a w => wpList P #[] Q t a w) Q) hz.1 hF fuel listed a w hs hc hX (by rw [atEnd_atEnd]; exact h)
    have hc1 : Closed md (l ++ [o]) (listed.push false) := fun i o' ho hi e he hb => by
      rcases Nat.lt_or_ge i l.length with hl | hl
      · rw [List.getElem?_append_left hl] at ho
        rw [getD_push _ (by omega)] at hi
        have := hc i o' ho hi e he hb
        have hlt := (lastX_op hz.1 ho).2 e he hb
        rw [getD_push _ (by omega)]
        exact this
      · have hlen := (List.getElem?_eq_some_iff.1 ho).1
        rw [List.length_append, List.length_singleton] at hlen
        have e1 : i = listed.size := by omega
        subst e1
        simp [Array.getD_eq_getD_getElem?] at hi
    have hX1 : ∀ i ∈ X, (listed.push false).getD i true = true := fun i hi => by
      have h2 := hX i hi
      have hlt : i < listed.size := by have := hXl i hi; omega
      rw [getD_push _ hlt]
      exact h2
    obtain ⟨L, hL, h2⟩ := ih (l ++ [o]) (fuel + 1) (listed.push false) a w hz.2 (by simp [hs]) hc1 hX1 (fun i hi => by have := hXl i hi; simp; omega) h1
    refine ⟨L, ?_, ?_⟩
    · rw [hL]
      apply Array.ext'
      simp [List.replicate_succ]
    · rw [List.append_assoc, List.singleton_append] at h2
      rw [List.length_cons, show fuel + (t.length + 1) = fuel + 1 + t.length from by omega]
      exact h2
/-- the last operations of a drawn region, a row of which each waits for all before but for one that is taken first -/
theorem region_sufX {id : Nat} {l m t : List Oper} {n : Nat} {Q : Exit → Act → World → Prop} {a : Act} {w : World} {S : World → Prop} {i : Nat} {oi : Oper} {v : Value} (hm : P.follows .mixedOrders = true) (h1 : l.take n = m) (h2 : l.drop n = t) (hz : sufX [i] .any m t = true) (hi : l.toArray[i]? = some oi) (hil : i < m.length)
    (hs : Region.noSelect l.toArray = true) (hf : Region.free .any l.toArray (Array.replicate l.toArray.size false) i = true) (hr : (Region.ready .any l.toArray (Array.replicate l.toArray.size false)).contains i = true) (hrm : (Region.ready .any m.toArray (Array.replicate m.length false)).contains i = true)
    (hQ : ∀ c a w, Q (.panic c) (a.put oi.dst v) w → Q (.panic c) a w) (hy : Yields P l.toArray oi v a) (hS : S w.drew)
    (h : S w.drew → wpAnyH P .any m.toArray (atEnd (fun a w => wpList P #[] Q t a w) Q) S (m.length - 1) ((Array.replicate m.length false).setIfInBounds i true) (a.put oi.dst v) w.drew) : (Code.region id l.toArray true).wp P Q a w := by
  have e : l = m ++ t := by rw [← h1, ← h2, List.take_append_drop]
  refine wp_region_any hm ?_
  have hsz : l.toArray.size = (l.toArray.size - 1) + 1 := by
    rw [e]; simp; omega
  rw [hsz]
  refine wpAny_take hi hs (by rw [← hsz]; exact hf) (by rw [← hsz]; exact hr) hQ hy ?_
  have hri : i ∈ Region.ready .any m.toArray (Array.replicate m.length false) := by simpa using hrm
  obtain ⟨L, hL, h3⟩ := wpAny_sufX (X := [i]) t m (m.length - 1) ((Array.replicate m.length false).setIfInBounds i true) _ _ hz (by simp) (closed_set (by simpa using hil) (closed_none .any m) hri) (fun q hq => by
    have : q = i := by simpa using hq
    subst this
    simp [Array.getD_eq_getD_getElem?, hil]) (fun q hq => by
    have : q = i := by simpa using hq
    subst this
    exact hil) (wpAny_of_held _ _ _ _ (h hS))
  have e1 : L = (Array.replicate l.toArray.size false).setIfInBounds i true := by
    rw [hL, e]
    apply Array.ext'
    rw [Array.toList_append, Array.toList_setIfInBounds, Array.toList_setIfInBounds, Array.toList_replicate, Array.toList_replicate, Array.toList_replicate]
    rw [List.size_toArray, List.length_append, ← List.replicate_append_replicate, List.set_append, if_pos (by simpa using hil)]
  rw [e1] at h3
  rw [← hsz]
  have e2 : l.toArray.size - 1 = m.length - 1 + t.length := by
    rw [e]; simp; omega
  rw [e2]
  have e3 : (m ++ t).toArray = l.toArray := by rw [e]
  rw [e3] at h3
  exact h3
end
end Go.Proofs.Ytcnjlkabdfcjdaa
