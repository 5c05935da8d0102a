/- What the statements on tables of names draw. -/
import Derived.Test.YtnompmdnonelhaaStr
import Derived.Test.YtnompmdnonelhaaFix
namespace Go.Proofs.Ytnompmdnonelhaa
open Go.ChangeShapes Go.WideShapes Go.ChangeAt Go.RowKit Go.Joins
set_option linter.unusedSimpArgs false
set_option linter.unusedVariables false
set_option maxRecDepth 100000
/-- Texts that can be read; the slice is not nil. -/
def ReadStrs (k : Nat) (w : World) (v : Value) : Prop := ∃ (l : List ByteArray) (b off cap : Nat), v = .slice (some ⟨b, off, none⟩) l.length cap ∧ StrsAt w v l ∧ l.length ≤ k ∧ ∀ s ∈ l, s.size ≤ 9
def lenV : Value → Nat
  | .slice _ n _ => n
  | _ => 0
set_option maxHeartbeats 1000000 in
theorem drawNameTable_any (w : World) (v : Value) (l : List UInt8) (h : BytesAt w v l) :
    Calls Try.prog 37 #[v] w (DrawB (ReadStrs 41) w) := by
  obtain ⟨i0, hi, hz0, hz1, hz2⟩ := info_parts info_str
  go_enter Try.func37, Try.ntmps37
  go_wp2_with fail
  refine (l20Open_any _ _ l h).mono ?_
  rintro e w1 ⟨g, rfl, hg, hR, hb⟩
  have HF := Lib.hid ((From.start w).call hb)
  have HR := Lib.hid hR
  have zg := hR.lt
  clear hb hR h
  go_wp2_with fail
  refine (odd_any w1 g 0 HR.out (by decide) 24 (by decide) (by decide)).mono ?_
  rintro e w2 ⟨_, q, rfl, ⟨bo, rfl⟩, hq, hD⟩
  have HF2 := Lib.hid (HF.out.drawn hD hg)
  have HR2 := Lib.hid hD.rd
  clear hD HF HR
  cases bo
  · go_wp2_with fail
    refine (l20Names_some w2 g q HR2.out (by omega) 30 (by decide) (by decide)).mono ?_
    rintro e w3 ⟨_, q3, rfl, ⟨k, hO, hn, hk, hs⟩, hq3, hD⟩
    obtain ⟨gb, gc, rfl, -, -⟩ := owns_some hO hn
    have HF3 := Lib.hid (HF2.out.drawn hD hg)
    have HO := Lib.hid hO.reads
    clear hD hO
    go_wp2_with fail
    go_ret
    exact ⟨_, rfl, ⟨k, gb, 0, gc, rfl, HO.out, by omega, hs⟩, HF3.out⟩
  · go_wp2_with fail
    go_loopw [4] (fun out wr => ∃ (k : List ByteArray) (gb gc : Nat), out = .slice (some ⟨gb, 0, none⟩) k.length gc ∧ k.length ≤ 41 ∧ Hid (OwnS wr w.heap.size out k) ∧ Hid (∀ s ∈ k, s.size ≤ 9) ∧ Hid (From w.heap.size w wr)) (fun out _ => 41 - lenV out)
    case atStart => exact ⟨[], _, _, rfl, by simp, owns_mono (World.ownsRow_lit w2 #[] 0 (Nat.le_refl _) (Nat.zero_le _) rfl) HF2.out.le, (fun s hs => by cases hs), HF2.out.alloc _⟩
    case round =>
      clear HF2 HR2
      obtain ⟨k, gb, gc, rfl, hk, HO, HS, HF⟩ := hrel
      by_cases hlt : k.length ≤ 40
      · have e1 : (k.length : Int) ≤ 40 := by omega
        go_wp2_with (at_builtin; refine wpList_append_src rfl (.tmp 13) (.tmp 14) 53 53 rfl w.heap.size 9 i0 (.string ⟨#[]⟩) 1 16 Try.underlying53 hi hz0 hz1 hz2 rfl (by decide) _ _ _ rfl (World.ownsRow.alloc HO.out _) _ 1 [_] rfl (src_new Try.underlying53 _ [_] 1 1 1 _ rfl ?c0) ?c1 ?c2 ?c3 ?_)
        case c0 => intro u hu; obtain rfl := List.mem_singleton.1 hu; rfl
        case c1 => unfold maxLen; omega
        case c2 => omega
        case c3 => have := HF.out.le; simp; omega
        intro v' w4 hown hgr
        have hn4 := owns_more_some hown
        have hO4 := owns_snocS hown
        obtain ⟨gb4, gc4, hv4, -, -⟩ := owns_some hO4 hn4
        obtain ⟨n4, hn5⟩ : ∃ n4, (k ++ [(⟨#[120]⟩ : ByteArray)]).length = n4 := ⟨_, rfl⟩
        have hn6 : n4 = k.length + 1 := by rw [← hn5]; simp
        rw [hn5] at hv4
        subst hv4
        have HO4 := Lib.hid hO4
        have HF4 := Lib.hid ((HF.out.alloc _).grown hgr (owns_block HO.out))
        have HS4 : Hid (∀ s ∈ k ++ [(⟨#[120]⟩ : ByteArray)], s.size ≤ 9) := fun s hs => by
          rcases List.mem_append.1 hs with hs | hs
          · exact HS.out s hs
          · obtain rfl := List.mem_singleton.1 hs; decide
        have HN5 := Lib.hid hn5
        have HN6 := Lib.hid hn6
        clear hown hgr hn4 hO4 HO HF hn5 hn6
        go_wp2_with fail
        go_roundw
        case rel => exact ⟨k ++ [⟨#[120]⟩], gb4, gc4, by rw [HN5.out], by rw [HN5.out, HN6.out]; omega, HO4, HS4, HF4⟩
        case measure => have := HN6.out; simp [lenV]; omega
      · have e1 : ¬ (k.length : Int) ≤ 40 := by omega
        go_wp2_with fail
        go_ret
        exact ⟨_, rfl, ⟨k, gb, 0, gc, rfl, HO.out.reads, hk, HS.out⟩, HF.out⟩
end Go.Proofs.Ytnompmdnonelhaa
