import Derived.Test.YtfconglamkkcoaaA
/- The session at work: what it sends, and how it ends. -/
namespace Go.Proofs.Ytfconglamkkcoaa
open Go.RowKit
set_option linter.unusedSimpArgs false
set_option linter.unusedVariables false

/-- A struct built round a part. -/
theorem build_part (c cells : Array Value) (off n : Nat) (hn : c.size = n) (h : off + n ≤ cells.size) : Array.foldl (fun (cs : Array Value) (x : Value × Nat) => cs.setIfInBounds (off + x.2) x.1) cells c.zipIdx 0 n = splice cells off c := by
  subst hn
  have := foldl_splice c cells off h
  rw [← this]
  congr 1
  simp
@[go_sem] theorem build_acn (k r : Int) (m : MsgV) : Array.foldl (fun (cs : Array Value) (x : Value × Nat) => cs.setIfInBounds (1 + x.2) x.1) #[.int .i64 k, .int .i64 0, .int .u32 0, .int .i64 0, .int .u32 0, .int .i64 0, .bool false, .int .i64 0, .int .i64 0, .int .i64 0, .slice none 0 0, .int .u32 0, .bool false, .int .u32 0, .bool false, .int .u32 0, .bool false, .int .u32 0, .slice none 0 0, .slice none 0 0, .int .i64 0, .int .u32 0, .int .u32 0, .int .u32 0, .slice none 0 0, .slice none 0 0, .int .i64 r] m.cs.zipIdx 0 25 = Acn.cs ⟨k, m, r⟩ := by
  rw [build_part _ _ _ _ (by simp) (by simp)]
  simp [splice, Acn.cs, MsgV.cs]
@[go_sem] theorem build_msg (k c d : Int) (x : OpenV) : Array.foldl (fun (cs : Array Value) (x : Value × Nat) => cs.setIfInBounds (1 + x.2) x.1) #[.int .i64 k, .int .u32 0, .int .i64 0, .int .u32 0, .int .i64 0, .bool false, .int .i64 c, .int .i64 d, .int .i64 0, .slice none 0 0, .int .u32 0, .bool false, .int .u32 0, .bool false, .int .u32 0, .bool false, .int .u32 0, .slice none 0 0, .slice none 0 0, .int .i64 0, .int .u32 0, .int .u32 0, .int .u32 0, .slice none 0 0, .slice none 0 0] x.cs.zipIdx 0 5 = MsgV.cs ⟨k, x, c, d, zeroAt, ⟨none, 0, 0⟩, ⟨none, 0, 0⟩⟩ := by
  rw [build_part _ _ _ _ (by simp) (by simp)]
  simp [splice, OpenV.cs, MsgV.cs, zeroAt]
@[go_sem] theorem splice_zero (x : RunV) : splice x.cs 9 #[.int .u32 0, .int .i64 0, .int .u32 0, .int .i64 0, .bool false] = RunV.cs { x with s := { x.s with o := zeroOpen } } := RunV.splice_s_o x zeroOpen

theorem send_any (base g : Nat) (W : World) (s : Ses) (now : Int) (l : List Acn) (v : Sl) (m : MsgV) (h : RunAt 78 base g W s now l v) (hl : l.length < 1000) (hbase : base ≤ W.heap.size) :
    Calls Try.prog 61 #[.pointer (some ⟨g, 0, none⟩), .agg m.cs] W fun e w' => e = .returned (.tuple #[]) ∧ Ran 78 base g s now (l ++ [⟨1, m, 0⟩]) v W w' := by
  have H := Lib.hid h
  clear h
  go_enter Try.func61, Try.ntmps61
  have hb1 : Below W.heap.size W (W.alloc (.cells m.cs 47)) := (Below.refl _ _).alloc (Nat.le_refl _) _
  have HB1 := Lib.hid hb1
  clear hb1
  go_wp2_with (go_at_call 58; refine (do_any base g _ s now l v ⟨1, m, 0⟩ (H.out.below HB1.out) hl (by simp; omega)).mono ?_; rintro e w1 ⟨rfl, hr⟩; have HR := Lib.hid hr; clear hr)
  go_returns
  exact ⟨rfl, Rn.then ⟨H.out.below HB1.out, fun k hk => .inl hk, Only.of_below HB1.out _⟩ HR.out⟩

def leaveS (s : Ses) (now : Int) : Ses := laterS { s with phase := 1, o := zeroOpen, hold := 0, expire := -1, alive := -1 } now
def leaveL (s : Ses) (reason : Int) : List Acn := if s.phase = 4 then [⟨5, zeroMsg, reason⟩] else []
set_option maxRecDepth 100000 in
theorem Ses.ok.left {s : Ses} (h : s.ok) : Ses.ok { s with phase := 1, o := zeroOpen, hold := 0, expire := -1, alive := -1 } := ⟨by simp, by simp, h.c0, h.c1, h.r0, h.r1, by simp, by simp⟩
set_option maxRecDepth 100000 in
theorem leave_any (base g : Nat) (W : World) (s : Ses) (now : Int) (l : List Acn) (v : Sl) (reason : Int) (h : RunAt 78 base g W s now l v) (hl : l.length < 1000) (hbase : base ≤ W.heap.size) :
    Calls Try.prog 60 #[.pointer (some ⟨g, 0, none⟩), .int .i64 reason] W fun e w' => e = .returned (.tuple #[]) ∧ Ran 78 base g (leaveS s now) now (l ++ leaveL s reason) v W w' := by
  have OK := Lib.hid h.ok.left
  by_cases hp : s.phase = 4
  · have hL : leaveL s reason = [⟨5, zeroMsg, reason⟩] := if_pos hp
    rw [hL]
    have hD := Lib.hid (do_any base g W s now l v ⟨5, zeroMsg, reason⟩ h hl hbase)
    obtain ⟨w0, rfl, hlt⟩ := h.pin
    clear h hL
    have hq : (s.phase == 4) = true := by simpa using hp
    go_enter Try.func60, Try.ntmps60
    go_wp2_with (go_at_call 58; refine hD.out.mono ?_; rintro e w1 ⟨rfl, hr⟩; refine Hid.out ?_)
    refine Lib.hid ?_
    obtain ⟨v1, hr⟩ := hr
    obtain ⟨w2, rfl, hlt2⟩ := hr.at'.pin
    have HR := Lib.hid hr
    clear hr hD
    have HP := Lib.hid (Ran.of_pin (s' := { s with phase := 1, o := zeroOpen, hold := 0, expire := -1, alive := -1 }) (w1 := w2) HR.out.at' (by decide) (Below.refl _ _) OK.out)
    go_wp2_with (go_at_call 59; refine Hid.out ?_)
    refine Lib.hid ?_
    obtain ⟨v2, hr2⟩ := HP.out
    refine (later_any base g _ _ now _ v2 hr2.at').mono ?_
    rintro e w3 ⟨rfl, hr3⟩
    have HZ := Lib.hid (HR.out.then (hr2.then hr3))
    clear hr2 hr3
    go_wp2_with fail
    go_returns
    exact ⟨rfl, HZ.out⟩
  · have hL : leaveL s reason = [] := if_neg hp
    rw [hL, List.append_nil]
    have H := Lib.hid h
    obtain ⟨w0, rfl, hlt⟩ := h.pin
    clear h
    have hq : (s.phase == 4) = false := by simpa using hp
    have HP := Lib.hid (Ran.of_pin (s' := { s with phase := 1, o := zeroOpen, hold := 0, expire := -1, alive := -1 }) (w1 := w0) H.out (by decide) (Below.refl _ _) OK.out)
    go_enter Try.func60, Try.ntmps60
    go_wp2_with (go_at_call 59; refine Hid.out ?_)
    refine Lib.hid ?_
    obtain ⟨v2, hr2⟩ := HP.out
    refine (later_any base g _ _ now _ v2 hr2.at').mono ?_
    rintro e w3 ⟨rfl, hr3⟩
    have HZ := Lib.hid (hr2.then hr3)
    clear hr2 hr3
    go_wp2_with fail
    go_returns
    exact ⟨rfl, HZ.out⟩

def failS (s : Ses) (now : Int) : Ses := leaveS s now
def noticeM (code sub : Int) : MsgV := { zeroMsg with kind := 3, code := code, sub := sub }
def failL (s : Ses) (code sub reason : Int) : List Acn := [⟨1, noticeM code sub, 0⟩, ⟨3, zeroMsg, 0⟩] ++ leaveL s reason
set_option maxRecDepth 100000 in
theorem fail_any (base g : Nat) (W : World) (s : Ses) (now : Int) (l : List Acn) (v : Sl) (code sub reason : Int) (h : RunAt 78 base g W s now l v) (hl : l.length < 900) (hbase : base ≤ W.heap.size) :
    Calls Try.prog 62 #[.pointer (some ⟨g, 0, none⟩), .int .i64 code, .int .i64 sub, .int .i64 reason] W fun e w' => e = .returned (.tuple #[]) ∧ Ran 78 base g (leaveS s now) now (l ++ failL s code sub reason) v W w' := by
  have H := Lib.hid h
  clear h
  go_enter Try.func62, Try.ntmps62
  go_wp2_with (first
    | (go_at_call 61; refine (send_any base g _ s now l v (noticeM code sub) H.out (by omega) hbase).mono ?_; rintro e w1 ⟨rfl, hr⟩; obtain ⟨v1, hr⟩ := hr; have H1 := Lib.hid hr; clear hr; have hb1 : base ≤ w1.heap.size := Nat.le_trans hbase H1.out.only.size)
    | (go_at_call 58; refine (do_any base g _ s now _ v1 ⟨3, zeroMsg, 0⟩ H1.out.at' (by simp; omega) hb1).mono ?_; rintro e w2 ⟨rfl, hr⟩; obtain ⟨v2, hr⟩ := hr; have H2 := Lib.hid hr; clear hr; have hb2 : base ≤ w2.heap.size := Nat.le_trans hb1 H2.out.only.size)
    | (go_at_call 60; refine (leave_any base g _ s now _ v2 reason H2.out.at' (by simp; omega) hb2).mono ?_; rintro e w3 ⟨rfl, hr⟩; obtain ⟨v3, hr⟩ := hr; have H3 := Lib.hid hr; clear hr))
  go_returns
  refine ⟨rfl, v3, ?_⟩
  have := (H1.out.trans H2.out).trans H3.out
  simpa [failL] using this
end Go.Proofs.Ytfconglamkkcoaa
