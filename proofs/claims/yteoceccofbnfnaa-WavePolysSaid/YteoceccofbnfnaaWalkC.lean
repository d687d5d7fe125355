/- The walks of the reference's sums, products and powers. -/
import Derived.Test.YteoceccofbnfnaaWalkB
import Derived.RegionTactic
import Derived.ChangeAlike
import Derived.BigRegion
import Derived.Deep.QuietTactic
import Derived.BigQuiet
import Derived.WalkSmall
import Derived.IntWalk
import Derived.Test.YteoceccofbnfnaaPlan
namespace Go.Proofs.Yteoceccofbnfnaa
open Go.RowKit

theorem gauss_any (p q : Int) (w : World) : Calls Try.prog 15 #[.agg #[.int .i64 p, .int .i64 q]] w fun e w' => e = .returned (.complex .f64 (floatOfInt .f64 p) (floatOfInt .f64 q)) ∧ Below w.heap.size w w' := by
  go_enter Try.func15, Try.ntmps15
  go_wp2
  go_ret
  exact ⟨rfl, (Below.refl _ _).alloc (Nat.le_refl _) _⟩

theorem rmul_any (p q r s : Int) (w : World) (h1 : -1048576 * 4294967296 ≤ p * r ∧ p * r ≤ 1048576 * 4294967296) (h2 : -1048576 * 4294967296 ≤ q * s ∧ q * s ≤ 1048576 * 4294967296)
   (h3 : -1048576 * 4294967296 ≤ p * s ∧ p * s ≤ 1048576 * 4294967296) (h4 : -1048576 * 4294967296 ≤ q * r ∧ q * r ≤ 1048576 * 4294967296) :
    Calls Try.prog 16 #[.agg #[.int .i64 p, .int .i64 q], .agg #[.int .i64 r, .int .i64 s]] w fun e w' => e = .returned (.agg #[.int .i64 (p * r - q * s), .int .i64 (p * s + q * r)]) ∧ Below w.heap.size w w' := by
  obtain ⟨a1, a2⟩ := h1
  obtain ⟨a3, a4⟩ := h2
  obtain ⟨a5, a6⟩ := h3
  obtain ⟨a7, a8⟩ := h4
  go_enter Try.func16, Try.ntmps16
  go_wp2
  refine bodyPost_ret (v := .agg #[.int .i64 (p * r - q * s), .int .i64 (p * s + q * r)]) (by simp [results, Try.results16, go_sem]) rfl ⟨rfl, ?_⟩
  exact (((Below.refl _ _).alloc (Nat.le_refl _) _).alloc (by simp) _).alloc (by simp; omega) _

theorem set_drewN (w : World) (n : Nat) (a : Addr) (v : Value) : (w.drewN n).setCell a v = (w.setCell a v).drewN n := rfl

set_option maxHeartbeats 1600000 in
theorem rfourths_any (a : Option Addr) (len cap : Nat) (zs : List Int) (w : World) (hl : len ≤ 200) (ha : RowOf w a len zs)
    (hz : ∀ j : Nat, -1048576 < zs[j]?.getD 0 ∧ zs[j]?.getD 0 < 1048576) :
    Calls Try.prog 10 #[.slice a len cap] w fun e w' => e = .returned (.agg #[.int .i64 (fourth zs 0 len), .int .i64 (fourth zs 1 len), .int .i64 (fourth zs 2 len), .int .i64 (fourth zs 3 len)]) ∧ Below w.heap.size w w' := by
  have hstep : ∀ r k, fourth zs r (k + 1) = fourth zs r k + if k % 4 = r then zs[k]?.getD 0 else 0 := fun _ _ => rfl
  have HS := Lib.hid hstep
  have HB := Lib.hid (fourth_bd zs hz)
  have HZ := Lib.hid hz
  have HA := Lib.hid ha
  clear hstep hz ha
  go_enter Try.func10, Try.ntmps10
  go_wp2
  go_loopw [4] (fun i wr => ∃ k n : Nat, k ≤ len ∧ i = .int .i64 k ∧ wr = ((w.alloc (.cells #[.int .i64 0, .int .i64 0, .int .i64 0, .int .i64 0] 24)).alloc (.cells #[.int .i64 (fourth zs 0 k), .int .i64 (fourth zs 1 k), .int .i64 (fourth zs 2 k), .int .i64 (fourth zs 3 k)] 24)).drewN n) (fun i _ => len - (intOf i).toNat)
  case atStart => exact ⟨0, 0, Nat.zero_le _, rfl, rfl⟩
  case round =>
    obtain ⟨k, n, hk, rfl, rfl⟩ := hrel
    by_cases hlt : k < len
    · obtain ⟨b, off, rfl, hbb, hc⟩ := HA.out (by omega)
      have hcell := hc k hlt
      clear hc
      have hcc : (((w.alloc (.cells #[.int .i64 0, .int .i64 0, .int .i64 0, .int .i64 0] 24)).alloc (.cells #[.int .i64 (fourth zs 0 k), .int .i64 (fourth zs 1 k), .int .i64 (fourth zs 2 k), .int .i64 (fourth zs 3 k)] 24))).cell? ⟨b, off + k, none⟩ = some (.int .i64 (zs[k]?.getD 0)) := by
        rw [World.cell?_alloc_past _ _ _ (by simp; omega), World.cell?_alloc_past _ _ _ hbb]; exact hcell
      obtain ⟨b0, b1⟩ := HB.out 0 k (by omega)
      obtain ⟨b2, b3⟩ := HB.out 1 k (by omega)
      obtain ⟨b4, b5⟩ := HB.out 2 k (by omega)
      obtain ⟨b6, b7⟩ := HB.out 3 k (by omega)
      obtain ⟨z0, z1⟩ := HZ.out k
      obtain h4 | h4 | h4 | h4 : k % 4 = 0 ∨ k % 4 = 1 ∨ k % 4 = 2 ∨ k % 4 = 3 := by omega
      · have h5 : (k : Int) % 4 = 0 := by omega
        go_wp2
        go_region
        go_wp2
        go_roundw
        case rel => exact ⟨k + 1, _, by omega, by go_num, by rw [HS.out, HS.out, HS.out, HS.out, set_drewN, World.setCell_alloc_at _ _ _ _ _ (by simp)]; simp [h4]; rfl⟩
        case measure => simp [intOf]; omega
      · have h5 : (k : Int) % 4 = 1 := by omega
        go_wp2
        go_region
        go_wp2
        go_roundw
        case rel => exact ⟨k + 1, _, by omega, by go_num, by rw [HS.out, HS.out, HS.out, HS.out, set_drewN, World.setCell_alloc_at _ _ _ _ _ (by simp)]; simp [h4]; rfl⟩
        case measure => simp [intOf]; omega
      · have h5 : (k : Int) % 4 = 2 := by omega
        go_wp2
        go_region
        go_wp2
        go_roundw
        case rel => exact ⟨k + 1, _, by omega, by go_num, by rw [HS.out, HS.out, HS.out, HS.out, set_drewN, World.setCell_alloc_at _ _ _ _ _ (by simp)]; simp [h4]; rfl⟩
        case measure => simp [intOf]; omega
      · have h5 : (k : Int) % 4 = 3 := by omega
        go_wp2
        go_region
        go_wp2
        go_roundw
        case rel => exact ⟨k + 1, _, by omega, by go_num, by rw [HS.out, HS.out, HS.out, HS.out, set_drewN, World.setCell_alloc_at _ _ _ _ _ (by simp)]; simp [h4]; rfl⟩
        case measure => simp [intOf]; omega
    · obtain rfl : k = len := by omega
      go_wp2
      refine bodyPost_ret (v := .agg #[.int .i64 (fourth zs 0 k), .int .i64 (fourth zs 1 k), .int .i64 (fourth zs 2 k), .int .i64 (fourth zs 3 k)]) (by simp [results, Try.results10, go_sem]) rfl ⟨rfl, ?_⟩
      exact ((((below_drewN (((Below.refl _ _).alloc (Nat.le_refl _) _).alloc (by simp) _) _).setCell (Nat.le_refl _) _).setCell (Nat.le_refl _) _).setCell (Nat.le_refl _) _).setCell (Nat.le_refl _) _

theorem blk_set {w : World} {b o : Nat} {c : Array Value} {e : TypeId} {fz : Nat × Nat} (h : w.heap[b]? = some (.cells c e fz)) (v : Value) : (w.setCell ⟨b, o, none⟩ v).heap[b]? = some (.cells (c.setIfInBounds o v) e fz) := by
  simp [World.setCell, Array.getElem?_modify, h]
theorem blk_other {w : World} {b : Nat} {a : Addr} {x : Option Obj} (h : w.heap[b]? = x) (hne : b ≠ a.block) (v : Value) : (w.setCell a v).heap[b]? = x := (Below.heap_setCell w a v b hne).trans h
theorem blk_below {w w' : World} {b B : Nat} {x : Option Obj} (h : w.heap[b]? = x) (hb : Below B w w') (hB : b < B) : w'.heap[b]? = x := (hb.block b hB).trans h
theorem blk_cell {w : World} {b o : Nat} {c : Array Value} {e : TypeId} {fz : Nat × Nat} (h : w.heap[b]? = some (.cells c e fz)) : w.cell? ⟨b, o, none⟩ = c[o]? := by simp [World.cell?, h]
theorem blk_free {w : World} {b o : Nat} {c : Array Value} {e : TypeId} (h : w.heap[b]? = some (.cells c e (0, 0))) : w.frozen? ⟨b, o, none⟩ = false := by simp [World.frozen?, h]
theorem blk_lt {w : World} {b : Nat} {x : Obj} (h : w.heap[b]? = some x) : b < w.heap.size := (Array.getElem?_eq_some_iff.1 h).1

theorem blk_drew {w : World} {b : Nat} {x : Option Obj} (h : w.heap[b]? = x) : w.drew.heap[b]? = x := h
theorem blk_alloc {w : World} {b : Nat} {x : Obj} {o : Obj} (h : w.heap[b]? = some x) : (w.alloc o).heap[b]? = some x := (Below.heap_alloc w o b (blk_lt h)).trans h
theorem blk_new (w : World) (c : Array Value) (e : TypeId) : (w.alloc (.cells c e)).heap[w.heap.size]? = some (.cells c e (0, 0)) := heap_alloc_new w _
theorem blk_new' {w : World} {b : Nat} (hb : b = w.heap.size) (c : Array Value) (e : TypeId) : (w.alloc (.cells c e)).heap[b]? = some (.cells c e (0, 0)) := hb ▸ heap_alloc_new w _

theorem bcell {W w1 : World} (hb : Below W.heap.size W w1) : (∀ b o, b < W.heap.size → w1.cell? ⟨b, o, none⟩ = W.cell? ⟨b, o, none⟩) ∧ (∀ b o, b < W.heap.size → w1.frozen? ⟨b, o, none⟩ = W.frozen? ⟨b, o, none⟩) :=
  ⟨fun b o h => hb.cell (p := ⟨b, o, none⟩) h, fun b o h => hb.frozen (p := ⟨b, o, none⟩) h⟩

/-- The memory of the reference's Poly: 'at', the result, the sum, the power. -/
def PM (B : Nat) (w : World) (p q x y u v : Int) : Prop :=
  w.heap[B]? = some (.cells #[.int .i64 p, .int .i64 q] 34 (0, 0)) ∧ w.heap[B + 1]? = some (.cells #[.int .i64 0, .int .i64 0] 34 (0, 0)) ∧
  w.heap[B + 2]? = some (.cells #[.int .i64 x, .int .i64 y] 34 (0, 0)) ∧ w.heap[B + 3]? = some (.cells #[.int .i64 u, .int .i64 v] 34 (0, 0))

set_option maxHeartbeats 1600000 in
theorem rpoly_any (p q : Int) (a : Option Addr) (len cap : Nat) (zs : List Int) (w : World) (hl : len ≤ 200) (hp : p.natAbs ≤ 1024) (hq : q.natAbs ≤ 1024)
    (ha : RowOf w a len zs) (hz : ∀ j : Nat, (zs[j]?.getD 0).natAbs < 1048576)
    (hpw : ∀ k, k ≤ len → (pw p q k).1.natAbs ≤ 4294967296 ∧ (pw p q k).2.natAbs ≤ 4294967296)
    (hps : ∀ k, k ≤ len → (ps p q zs k).1.natAbs < 2 ^ 53 ∧ (ps p q zs k).2.natAbs < 2 ^ 53) :
    Calls Try.prog 20 #[.agg #[.int .i64 p, .int .i64 q], .slice a len cap] w fun e w' => e = .returned (.agg #[.int .i64 (ps p q zs len).1, .int .i64 (ps p q zs len).2]) ∧ Below w.heap.size w w' := by
  have HA := Lib.hid ha
  have HZ := Lib.hid hz
  have HPW := Lib.hid hpw
  have HPS := Lib.hid hps
  clear ha hz hpw hps
  go_enter Try.func20, Try.ntmps20
  go_wp2
  go_loopw [7] (fun i wr => ∃ k : Nat, k ≤ len ∧ i = .int .i64 k ∧ PM w.heap.size wr p q (ps p q zs k).1 (ps p q zs k).2 (pw p q k).1 (pw p q k).2 ∧ Below w.heap.size w wr) (fun i _ => len - (intOf i).toNat)
  case atStart =>
    refine ⟨0, Nat.zero_le _, rfl, ?_, ?_⟩
    · refine ⟨?_, ?_, ?_, ?_⟩
      · exact blk_alloc (blk_alloc (blk_alloc (blk_new w _ _)))
      · exact blk_alloc (blk_alloc (blk_new' (by simp) _ _))
      · exact blk_alloc (blk_new' (by simp) _ _)
      · exact blk_new' (by simp) _ _
    · exact ((((Below.refl _ _).alloc (Nat.le_refl _) _).alloc (by simp) _).alloc (by simp; omega) _).alloc (by simp; omega) _
  case round =>
    obtain ⟨k, hk, rfl, hpm, hbel⟩ := hrel
    obtain ⟨wo, rfl⟩ : ∃ wo : World, wo = wr := ⟨_, rfl⟩
    obtain ⟨m0, m1, m2, m3⟩ := hpm
    have c0 : wo.cell? ⟨w.heap.size, 0, none⟩ = some (.int .i64 p) := blk_cell m0
    have c1 : wo.cell? ⟨w.heap.size, 1, none⟩ = some (.int .i64 q) := blk_cell m0
    have c2 : wo.cell? ⟨w.heap.size + 1, 0, none⟩ = some (.int .i64 0) := blk_cell m1
    have c3 : wo.cell? ⟨w.heap.size + 1, 1, none⟩ = some (.int .i64 0) := blk_cell m1
    have c4 : wo.cell? ⟨w.heap.size + 2, 0, none⟩ = some (.int .i64 (ps p q zs k).1) := blk_cell m2
    have c5 : wo.cell? ⟨w.heap.size + 2, 1, none⟩ = some (.int .i64 (ps p q zs k).2) := blk_cell m2
    have c6 : wo.cell? ⟨w.heap.size + 3, 0, none⟩ = some (.int .i64 (pw p q k).1) := blk_cell m3
    have c7 : wo.cell? ⟨w.heap.size + 3, 1, none⟩ = some (.int .i64 (pw p q k).2) := blk_cell m3
    have f2 : wo.frozen? ⟨w.heap.size + 1, 0, none⟩ = false := blk_free m1
    have f3 : wo.frozen? ⟨w.heap.size + 1, 1, none⟩ = false := blk_free m1
    have f4 : wo.frozen? ⟨w.heap.size + 2, 0, none⟩ = false := blk_free m2
    have f5 : wo.frozen? ⟨w.heap.size + 2, 1, none⟩ = false := blk_free m2
    have f6 : wo.frozen? ⟨w.heap.size + 3, 0, none⟩ = false := blk_free m3
    have f7 : wo.frozen? ⟨w.heap.size + 3, 1, none⟩ = false := blk_free m3
    have hsz : w.heap.size + 3 < wo.heap.size := blk_lt m3
    by_cases hlt : k < len
    · obtain ⟨b, off, rfl, hbb, hc⟩ := HA.out (by omega)
      have hcell : wo.cell? ⟨b, off + k, none⟩ = some (.int .i64 (zs[k]?.getD 0)) := (hbel.cell (p := ⟨b, off + k, none⟩) hbb).trans (hc k hlt)
      obtain ⟨u1, u2⟩ := HPW.out k (by omega)
      obtain ⟨s1, s2⟩ := HPS.out k (by omega)
      have z1 := HZ.out k
      have n1 := natAbs_mul_le (m := 1048576) (by omega) u1 (a := zs[k]?.getD 0)
      have n2 := natAbs_mul_le (m := 1048576) (by omega) u2 (a := zs[k]?.getD 0)
      have n3 := natAbs_mul_le u1 hp
      have n4 := natAbs_mul_le u2 hp
      have n5 := natAbs_mul_le u1 hq
      have n6 := natAbs_mul_le u2 hq
      have M0 := Lib.hid m0
      have M1 := Lib.hid m1
      have M2 := Lib.hid m2
      have M3 := Lib.hid m3
      have HB := Lib.hid hbel
      clear m0 m1 m2 m3 hbel hc c2 c3 f2 f3
      go_wp2_with fail
      have g1 : IntKind.i64.wrap (zs[k]?.getD 0 * (pw p q k).1) = zs[k]?.getD 0 * (pw p q k).1 := IntWalk.i64_in _ (by omega)
      have g2 : IntKind.i64.wrap (zs[k]?.getD 0 * (pw p q k).2) = zs[k]?.getD 0 * (pw p q k).2 := IntWalk.i64_in _ (by omega)
      have g3 : IntKind.i64.wrap ((ps p q zs k).1 + zs[k]?.getD 0 * (pw p q k).1) = (ps p q zs k).1 + zs[k]?.getD 0 * (pw p q k).1 := IntWalk.i64_in _ (by omega)
      have g4 : IntKind.i64.wrap ((ps p q zs k).2 + zs[k]?.getD 0 * (pw p q k).2) = (ps p q zs k).2 + zs[k]?.getD 0 * (pw p q k).2 := IntWalk.i64_in _ (by omega)
      refine wp_region_plan 1 (fun w' => w' = wo.drew) (by kernel_rfl) (by kernel_rfl) (by kernel_rfl) rfl ?_
      iterate 21 (refine PlanT.take (v := ?_) (by kernel_rfl) (Steady.still (by rfl) ?_) ?_; rotate_left; (focus (rintro wS rfl; go_simp; try (with_reducible rfl))); simp only [Act.put, List.setIfInBounds_toArray, List.set_cons_zero, List.set_cons_succ])
      refine PlanT.last (by kernel_rfl) (by rfl) ?_
      rintro wS rfl K hK
      go_simp
      refine hK.out _ _ ?_
      clear hK g1 g2 g3 g4
      go_wp2_with fail
      have d1 : -4503599627370496 ≤ (pw p q k).1 * p ∧ (pw p q k).1 * p ≤ 4503599627370496 := by omega
      have d2 : -4503599627370496 ≤ (pw p q k).2 * q ∧ (pw p q k).2 * q ≤ 4503599627370496 := by omega
      have d3 : -4503599627370496 ≤ (pw p q k).1 * q ∧ (pw p q k).1 * q ≤ 4503599627370496 := by omega
      have d4 : -4503599627370496 ≤ (pw p q k).2 * p ∧ (pw p q k).2 * p ≤ 4503599627370496 := by omega
      refine (rmul_any _ _ _ _ _ (by omega) (by omega) (by omega) (by omega)).mono ?_
      rintro e w1 ⟨rfl, hb1⟩
      obtain ⟨hc1, hf1⟩ := bcell hb1
      have hs1 := hb1.size
      have HB1 := Lib.hid hb1
      clear hb1
      simp at hs1
      have hsz1 : w.heap.size + 3 < w1.heap.size := by omega
      go_wp2
      go_roundw
      case rel =>
        refine ⟨k + 1, by omega, by go_num, ⟨?_, ?_, ?_, ?_⟩, ?_⟩
        · exact blk_other (blk_other (blk_below (blk_drew (blk_other (blk_other M0.out (by show _ ≠ _; simp only []; omega) _) (by show _ ≠ _; simp only []; omega) _)) HB1.out (by simp; omega)) (by show _ ≠ _; simp only []; omega) _) (by show _ ≠ _; simp only []; omega) _
        · exact blk_other (blk_other (blk_below (blk_drew (blk_other (blk_other M1.out (by simp) _) (by simp) _)) HB1.out (by simp; omega)) (by simp) _) (by simp) _
        · exact blk_other (blk_other (blk_below (blk_drew (blk_set (blk_set M2.out _) _)) HB1.out (by simp; omega)) (by simp) _) (by simp) _
        · exact blk_set (blk_set (blk_below (blk_drew (blk_other (blk_other M3.out (by simp) _) (by simp) _)) HB1.out (by simp; omega)) _) _
        · exact ((((HB.out.setCell (by simp; omega) _).setCell (by simp; omega) _).drew.trans (HB1.out.mono (by simp; omega))).setCell (by simp; omega) _).setCell (by simp; omega) _
      case measure => simp [intOf]; omega
    · have HPM := Lib.hid m2
      obtain rfl : k = len := by omega
      have HB := Lib.hid hbel
      clear m0 m1 m2 m3 hbel
      go_wp2
      refine bodyPost_ret (v := .agg #[.int .i64 (ps p q zs k).1, .int .i64 (ps p q zs k).2]) (by simp [results, Try.results20, go_sem, c2, c3]) rfl ⟨rfl, ?_⟩
      exact (HB.out.setCell (by simp) _).setCell (by simp) _

end Go.Proofs.Yteoceccofbnfnaa
