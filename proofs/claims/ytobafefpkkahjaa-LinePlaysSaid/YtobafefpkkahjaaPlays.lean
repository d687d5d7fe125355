/- LinePlays: the walk. -/
import Derived.Test.YtobafefpkkahjaaPlaysA
import Derived.Deep.RegionHeld3
namespace Go.Proofs.Ytobafefpkkahjaa
open Go.RowKit

/-- The loop's relation. -/
def Both (w0 w : World) (L Y : Nat) : Prop := ∃ ax cx ay cy bs want dr, Pst w0 w L Y ax cx ay cy bs want dr

theorem Pst.new {w0 w : World} (h : Below w0.heap.size w0 w) : Pst w0 ((w.alloc (.cells #[.slice none 0 0, .int .i64 (-1), .bool false] 54)).alloc (.cells #[.slice none 0 0, .bool false, .int .i64 0, .bool false] 39)) w.heap.size (w.heap.size + 1) none 0 none 0 [] (-1) false := by
  have h1 := (Own.new w0 w h).alloc (.cells #[.slice none 0 0, .bool false, .int .i64 0, .bool false] 39)
  refine ⟨h1, ⟨0, ⟨?_, Rd.nil _ _, by simp, (fun ad h => by cases h), fun _ => rfl⟩, fun h => absurd rfl h⟩, by have := h.size; omega, ?_, (fun ad h => by cases h), by decide, by simp⟩
  · exact blk_new' (by simp) _
  · rintro (h | ⟨ad, h, _⟩)
    · omega
    · cases h

theorem below_drewN (w : World) (n : Nat) : Below w.heap.size w (w.drewN n) := (touch_drewN w n (fun _ => False)).below (Nat.le_refl _) (fun _ _ h => h)

theorem len_quiet {L : Nat} {a : Option Addr} {cap : Nat} {bs : List UInt8} {want : Int} {dr : Bool} {w : World} (n : Nat) (hx : XAt w L a cap bs want dr) :
    Calls Try.prog 21 #[.pointer (some ⟨L, 0, none⟩)] (w.drewN n) fun e w' => e = .returned (.int .i64 bs.length) ∧ ∃ m, w' = w.drewN m :=
  Calls.quiet_of_same ((len_any L a cap bs want dr _ (hx.touch (touch_drewN w n (fun _ => False)) (fun _ _ h => h))).mono fun _ _ ⟨he, hw⟩ => ⟨he, hw.symm⟩)

set_option maxRecDepth 10000 in
set_option maxHeartbeats 3200000 in
theorem plays_in (a : Option Addr) (cap : Nat) (js : List Job) (w : World) (hs : Script w a js) (hlen : js.length ≤ 9223372036854775806) :
    Calls Try.prog 6 #[.slice a js.length cap] w fun e w' => e = .returned (.bool true) ∧ Below w.heap.size w w' := by
  have HS := Lib.hid hs
  clear hs
  go_enter Try.func6, Try.ntmps6
  go_wp2_with fail
  refine (long_any a cap js w HS.out hlen).mono ?_
  rintro e w1 ⟨b, rfl, rfl, hb⟩
  cases b with
  | true =>
    clear hb
    go_wp2
    go_ret
    exact ⟨rfl, Below.refl _ _⟩
  | false =>
    have HSH := Lib.hid (hb rfl)
    clear hb
    go_wp2_with fail
    refine (new_any _).mono ?_
    rintro e w2 ⟨rfl, rfl⟩
    go_wp2_with fail
    have HP0 := Lib.hid (Pst.new (Below.refl w.heap.size w))
    go_loopw [5] (fun i wr => ∃ k : Nat, k ≤ js.length ∧ k ≤ 100 ∧ i = .int .i64 k ∧ Hid (Both w wr w.heap.size (w.heap.size + 1))) (fun i _ => 100 - (intOf i).toNat)
    case atStart => exact ⟨0, Nat.zero_le _, by omega, rfl, none, 0, none, 0, [], -1, false, HP0.out⟩
    case round =>
      obtain ⟨k, hk, hk1, rfl, hB⟩ := hrel
      clear HP0
      obtain ⟨ax, cx, ay, cy, bs, want, dr, hP⟩ := hB.out
      have HP := Lib.hid hP
      clear hP hB
      by_cases hlt : k < js.length
      · by_cases hlt2 : k < 100
        · obtain ⟨j, hj⟩ : ∃ j, js[k]? = some j := ⟨_, List.getElem?_eq_getElem hlt⟩
          obtain ⟨g, off, rfl, hgw, hc⟩ := HS.out.2 (by omega)
          obtain ⟨h1w, h2w, h3w⟩ := hc k j hj
          have h1 : wr.cell? ⟨g, off + k * 3, none⟩ = some (.int .i64 j.kind) := (HP.out.own.bel.cell (p := ⟨g, off + k * 3, none⟩) hgw).trans h1w
          have h2 : wr.cell? ⟨g, off + k * 3 + 1, none⟩ = some (.slice j.a j.bs.length j.cap) := (HP.out.own.bel.cell (p := ⟨g, off + k * 3 + 1, none⟩) hgw).trans h2w
          have h3 : wr.cell? ⟨g, off + k * 3 + 2, none⟩ = some (.int .i64 j.n) := (HP.out.own.bel.cell (p := ⟨g, off + k * 3 + 2, none⟩) hgw).trans h3w
          have HB0 := Lib.hid (HS.out.1 j (List.mem_of_getElem? hj))
          have HN := Lib.hid (HSH.out k j hj hlt2)
          have HG : Hid (g < wr.heap.size) := Nat.lt_of_lt_of_le hgw HP.out.own.bel.size
          have HGX : Hid (¬ Foot w.heap.size ax g ∧ g ≠ w.heap.size + 1) := ⟨fun hf => by have := HP.out.own.foot g hf; omega, by omega⟩
          have haddr := addr_add g off (k * 3)
          have hk0 : (0 : Int) ≤ (k : Int) := Int.natCast_nonneg _
          have hkl : (k : Int) < (js.length : Int) := by omega
          clear hj hc hgw h1w h2w h3w
          obtain ⟨kind, b, ys, bc, nn⟩ := j
          simp only at h1 h2 h3
          by_cases k1 : kind = 1
          · subst k1
            go_wp2_with fail
            clear h1 h3
            have HPD := Lib.hid HP.out.drew
            have HBD : Hid (Rd wr.drew b ys) := HPD.out.own.rd HB0.out.1
            have h2d : wr.drew.cell? ⟨g, off + k * 3 + 1, none⟩ = some (.slice b ys.length bc) := h2
            by_cases hsz : bs.length + ys.length ≤ 4096
            · have HSZ := Lib.hid hsz
              clear hsz
              go_region_held3 (fun w' => w'.cell? ⟨g, off + k * 3 + 1, none⟩ = some (.slice b ys.length bc)) (first | assumption | go_keep)
                (first
                  | (go_at_call 15
                     refine (feed_ok' w.heap.size ax cx bs want dr b ys.length bc ys wr.drew rfl HPD.out.own.x HBD.out HSZ.out).mono ?_
                     rintro e w2 ⟨ax2, cx2, rfl, hx2, ht2, haf2⟩
                     have HH := Lib.hid (HPD.out.half hx2 ht2 haf2)
                     have HB2 : Hid (Rd w2 b ys) := HH.out.own.rd HB0.out.1
                     have hk2 : w2.cell? ⟨g, off + k * 3 + 1, none⟩ = some (.slice b ys.length bc) := (ht2.cell (a := ⟨g, off + k * 3 + 1, none⟩) HG.out HGX.out.1).trans h2d
                     have HG2 : Hid (g < w2.heap.size) := Nat.lt_of_lt_of_le HG.out ht2.size
                     clear hx2 ht2 haf2)
                  | (go_at_call 16
                     refine (rfeed_said (w.heap.size + 1) ay cy bs want dr b ys.length bc ys w2 rfl HH.out.y HB2.out HSZ.out).mono ?_
                     rintro e w3 ⟨ay3, cy3, rfl, hy3, ht3, hf3⟩
                     have hk3 : w3.cell? ⟨g, off + k * 3 + 1, none⟩ = some (.slice b ys.length bc) := (ht3.cell (a := ⟨g, off + k * 3 + 1, none⟩) HG2.out HGX.out.2).trans hk2
                     have HP3 := Lib.hid (HH.out.whole hy3 ht3 (fun ad had _ hf => by have := HH.out.own.x.inA_lt _ hf; have := hf3 ad had; omega) HPD.out.wl (by have := HSZ.out; simp; omega))
                     clear hy3 ht3 hf3))
              clear h2 h2d hk2 hk3 haddr HH HB2 HPD HBD HG2
              generalize bs ++ ys = bs3 at HP3
              go_wp2_with fail
              have cY : w3.cell? ⟨w.heap.size + 1, 0, none⟩ = some (.slice ay3 bs3.length cy3) := by
                obtain ⟨_, hy, _⟩ := HP3.out.y
                exact blk_cell hy.cell
              have HSX := Lib.hid HP3.out
              have HKK : Hid (k < js.length ∧ k < 100) := ⟨hlt, hlt2⟩
              clear hk0 hkl hlt hlt2 hk hk1 hlen 
              go_quiet ((go_at_call 21; exact len_quiet _ HP3.out.own.x))
              go_wp2_with fail
              have hkk := HKK.out
              go_round
              case rel => exact ⟨k + 1, by omega, by omega, by go_num, ax2, cx2, ay3, cy3, bs3, want, dr, HSX.out.grow (below_drewN _ _)⟩
              case measure => simp [intOf]; omega
            · have HSZ : Hid (4096 < bs.length + ys.length) := by show _ < _; omega
              clear hsz
              go_region_held3 (fun w' => w'.cell? ⟨g, off + k * 3 + 1, none⟩ = some (.slice b ys.length bc)) (first | assumption | go_keep)
                (first
                  | (go_at_call 15
                     refine (feed_no w.heap.size ax cx bs want dr b ys.length bc wr.drew HPD.out.own.x (by have := HP.out.sz; omega) HB0.out.2 HSZ.out).mono ?_
                     rintro e w2 ⟨rfl, rfl⟩)
                  | (go_at_call 16
                     refine (rfeed_not (w.heap.size + 1) ay cy bs want dr b ys.length bc wr.drew HPD.out.y HP.out.sz HSZ.out).mono ?_
                     rintro e w3 ⟨rfl, rfl⟩))
              clear h2 h2d haddr HBD
              go_wp2_with fail
              generalize wr.drew = w3 at *
              have cY : w3.cell? ⟨w.heap.size + 1, 0, none⟩ = some (.slice ay bs.length cy) := by
                obtain ⟨_, hy, _⟩ := HPD.out.y
                exact blk_cell hy.cell
              have HSX := Lib.hid HPD.out
              have HKK : Hid (k < js.length ∧ k < 100) := ⟨hlt, hlt2⟩
              clear hk0 hkl hlt hlt2 hk hk1 hlen 
              go_quiet ((go_at_call 21; exact len_quiet _ HPD.out.own.x))
              go_wp2_with fail
              have hkk := HKK.out
              go_round
              case rel => exact ⟨k + 1, by omega, by omega, by go_num, ax, cx, ay, cy, bs, want, dr, HSX.out.grow (below_drewN _ _)⟩
              case measure => simp [intOf]; omega
          · by_cases k2 : kind = 2
            · subst k2
              obtain ⟨st, hst⟩ : ∃ st, step bs want dr = st := ⟨_, rfl⟩
              obtain ⟨kd, dt, ok, bs2, want2, dr2⟩ := st
              have HL : Hid (bs2.length ≤ bs.length ∧ -1 ≤ want2) := by
                have h1 := step_len bs want dr
                have h2 := step_want bs want dr HP.out.wl
                rw [hst] at h1 h2
                exact ⟨h1, h2⟩
              have HST := Lib.hid hst
              clear hst
              go_wp2_with fail
              clear h1 h2 h3 haddr
              refine (next_any w.heap.size ax cx bs want dr _ HP.out.own.x HP.out.wl (by have := HP.out.sz; omega)).mono ?_
              rw [HST.out]
              rintro e w2 ⟨r, rc, ax2, cx2, rfl, hr, hra, hx2, ht2, haf2⟩
              have HH := Lib.hid ((HP.out.half hx2 ht2 (haf2.after _)).grow ((Below.refl _ _).alloc (Nat.le_refl _) (.cells #[.int .i64 kd, .slice r dt.length rc] 30)))
              have HR := Lib.hid (hr.alloc (.cells #[.int .i64 kd, .slice r dt.length rc] 30))
              have HRN : Hid (∀ ad, r = some ad → ad.block ≠ w.heap.size + 1) := fun ad had => by
                rcases hra ad had with ⟨_, h, _⟩ | h
                · cases h
                · obtain ⟨_, hy, _⟩ := HP.out.y
                  have := blk_lt hy.cell
                  omega
              have HEV := Lib.hid (blk_new w2 (.cells #[.int .i64 kd, .slice r dt.length rc] 30))
              have HE2 : Hid (w2.heap.size ≠ w.heap.size + 1) := by
                obtain ⟨_, hy, _⟩ := HP.out.y
                have := blk_lt hy.cell
                have := ht2.size
                exact fun h => by omega
              clear hr hra hx2 ht2 haf2
              go_wp2_with fail
              refine (rnext_any (w.heap.size + 1) ay cy bs want dr _ HH.out.y HP.out.wl HP.out.sz).mono ?_
              rw [HST.out]
              rintro e w4 ⟨r2, rc2, ay2, cy2, rfl, hr2, hy2, ht4, hin⟩
              have HP4 := Lib.hid ((HH.out.next hy2 ht4 hin HL.out.1 HL.out.2 HP.out.sz).grow ((Below.refl _ _).alloc (Nat.le_refl _) (.cells #[.int .i64 kd, .slice r2 dt.length rc2] 30)))
              have HR1 := Lib.hid ((HR.out.touch ht4 (fun ⟨ad, had, h⟩ => HRN.out ad had h)).alloc (.cells #[.int .i64 kd, .slice r2 dt.length rc2] 30))
              have HR2 := Lib.hid (hr2.alloc (.cells #[.int .i64 kd, .slice r2 dt.length rc2] 30))
              have hev := blk_alloc (o := .cells #[.int .i64 kd, .slice r2 dt.length rc2] 30) (blk_touch HEV.out ht4 HE2.out)
              have c0 : (w4.alloc (.cells #[.int .i64 kd, .slice r2 dt.length rc2] 30)).cell? ⟨w2.heap.size, 0, none⟩ = some (.int .i64 kd) := blk_cell hev
              have c1 : (w4.alloc (.cells #[.int .i64 kd, .slice r2 dt.length rc2] 30)).cell? ⟨w2.heap.size, 1, none⟩ = some (.slice r dt.length rc) := blk_cell hev
              have hok : (ok != ok) = false := by simp
              clear hr2 hy2 ht4 hin hev
              go_wp2_with fail
              refine (same_true kd r r2 rc rc2 dt _ HR1.out HR2.out).mono ?_
              rintro e w5 ⟨rfl, hb5⟩
              have HP5 := Lib.hid (HP4.out.grow hb5)
              clear hb5 c0 c1 HP4 HR1 HR2 HH HR HRN HEV HE2
              go_wp2_with fail
              have cY : w5.cell? ⟨w.heap.size + 1, 0, none⟩ = some (.slice ay2 bs2.length cy2) := by
                obtain ⟨_, hy, _⟩ := HP5.out.y
                exact blk_cell hy.cell
              have HSX := Lib.hid HP5.out
              have HKK : Hid (k < js.length ∧ k < 100) := ⟨hlt, hlt2⟩
              clear hk0 hkl hlt hlt2 hk hk1 hlen hok
              go_quiet ((go_at_call 21; exact len_quiet _ HP5.out.own.x))
              go_wp2_with fail
              have hkk := HKK.out
              go_round
              case rel => exact ⟨k + 1, by omega, by omega, by go_num, ax2, cx2, ay2, cy2, bs2, want2, dr2, HSX.out.grow (below_drewN _ _)⟩
              case measure => simp [intOf]; omega
            · have e1 : (kind == 1) = false := by simpa using k1
              have e2 : (kind == 2) = false := by simpa using k2
              go_wp2_with fail
              clear h1 h2
              have HPD := Lib.hid HP.out.drew
              have h3d : wr.drew.cell? ⟨g, off + k * 3 + 2, none⟩ = some (.int .i64 nn) := h3
              by_cases hin : 0 ≤ nn ∧ nn ≤ 1200
              · have HIN := Lib.hid hin
                clear hin
                go_region_held3 (fun w' => w'.cell? ⟨g, off + k * 3 + 2, none⟩ = some (.int .i64 nn)) (first | assumption | go_keep)
                  (first
                    | (go_at_call 19
                       refine (want_ok w.heap.size ax cx bs want dr nn wr.drew HPD.out.own.x HIN.out.1 HIN.out.2).mono ?_
                       rintro e w2 ⟨rfl, hx2, ht2⟩
                       have HH := Lib.hid (HPD.out.half hx2 ht2 (After.same _ _))
                       have hk2 : w2.cell? ⟨g, off + k * 3 + 2, none⟩ = some (.int .i64 nn) := (ht2.cell (a := ⟨g, off + k * 3 + 2, none⟩) HG.out HGX.out.1).trans h3d
                       have HG2 : Hid (g < w2.heap.size) := Nat.lt_of_lt_of_le HG.out ht2.size
                       clear hx2 ht2)
                    | (go_at_call 20
                       refine (rwant_said (w.heap.size + 1) ay cy bs want dr nn w2 HH.out.y HIN.out.1 HIN.out.2).mono ?_
                       rintro e w3 ⟨rfl, hy3, ht3⟩
                       have hk3 : w3.cell? ⟨g, off + k * 3 + 2, none⟩ = some (.int .i64 nn) := (ht3.cell (a := ⟨g, off + k * 3 + 2, none⟩) HG2.out HGX.out.2).trans hk2
                       have HP3 := Lib.hid (HH.out.whole hy3 ht3 HH.out.nb (by have := HIN.out.1; omega) HP.out.sz)
                       clear hy3 ht3))
                clear h3 h3d hk2 hk3 haddr HH HPD HG2
                go_wp2_with fail
                have cY : w3.cell? ⟨w.heap.size + 1, 0, none⟩ = some (.slice ay bs.length cy) := by
                  obtain ⟨_, hy, _⟩ := HP3.out.y
                  exact blk_cell hy.cell
                have HSX := Lib.hid HP3.out
                have HKK : Hid (k < js.length ∧ k < 100) := ⟨hlt, hlt2⟩
                clear hk0 hkl hlt hlt2 hk hk1 hlen 
                go_quiet ((go_at_call 21; exact len_quiet _ HP3.out.own.x))
                go_wp2_with fail
                have hkk := HKK.out
                go_round
                case rel => exact ⟨k + 1, by omega, by omega, by go_num, ax, cx, ay, cy, bs, nn, dr, HSX.out.grow (below_drewN _ _)⟩
                case measure => simp [intOf]; omega
              · have HOUT : Hid (nn < 0 ∨ 1200 < nn) := by show _ ∨ _; omega
                clear hin
                go_region_held3 (fun w' => w'.cell? ⟨g, off + k * 3 + 2, none⟩ = some (.int .i64 nn)) (first | assumption | go_keep)
                  (first
                    | (go_at_call 19
                       refine (want_no (some ⟨w.heap.size, 0, none⟩) nn wr.drew (.inr HOUT.out)).mono ?_
                       rintro e w2 ⟨rfl, rfl⟩)
                    | (go_at_call 20
                       refine (rwant_no (w.heap.size + 1) nn wr.drew HOUT.out).mono ?_
                       rintro e w3 ⟨rfl, rfl⟩))
                clear h3 h3d haddr
                go_wp2_with fail
                generalize wr.drew = w3 at *
                have cY : w3.cell? ⟨w.heap.size + 1, 0, none⟩ = some (.slice ay bs.length cy) := by
                  obtain ⟨_, hy, _⟩ := HPD.out.y
                  exact blk_cell hy.cell
                have HSX := Lib.hid HPD.out
                have HKK : Hid (k < js.length ∧ k < 100) := ⟨hlt, hlt2⟩
                clear hk0 hkl hlt hlt2 hk hk1 hlen 
                go_quiet ((go_at_call 21; exact len_quiet _ HPD.out.own.x))
                go_wp2_with fail
                have hkk := HKK.out
                go_round
                case rel => exact ⟨k + 1, by omega, by omega, by go_num, ax, cx, ay, cy, bs, want, dr, HSX.out.grow (below_drewN _ _)⟩
                case measure => simp [intOf]; omega
        · have hge : ¬ (k : Int) < 100 := by omega
          go_wp2_with fail
          refine (known_any _).mono ?_
          rintro e w3 ⟨rfl, hb3⟩
          go_wp2
          go_ret
          exact ⟨rfl, HP.out.own.bel.trans (hb3.mono HP.out.own.bel.size)⟩
      · have hge : ¬ (k : Int) < (js.length : Int) := by omega
        go_wp2_with fail
        refine (known_any _).mono ?_
        rintro e w3 ⟨rfl, hb3⟩
        go_wp2
        go_ret
        exact ⟨rfl, HP.out.own.bel.trans (hb3.mono HP.out.own.bel.size)⟩

end Go.Proofs.Ytobafefpkkahjaa
