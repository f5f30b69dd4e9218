/- Printed by own program: twins and walks. -/
import Derived.Test.YtlfemhkabjafeaaB21
import Derived.Test.YtlfemhkabjafeaaProg
set_option linter.unusedVariables false
set_option maxRecDepth 100000
namespace Go.Proofs.Ytlfemhkabjafeaa.M
abbrev K52 : Kd := .pair .str (.pair .str (.pair .str .unit))
abbrev K31 : Kd := .pair .i (.pair .str (.pair .str (.pair .str (.pair .i (.pair (.list .i) .unit)))))
abbrev K47 : Kd := .pair .i (.pair (.list K52) (.pair .i (.pair .bool .unit)))
abbrev K108 : Kd := .pair .str (.pair .i .unit)
abbrev fs47 : List Fk := [.p .i, .p (.list K52), .p .i, .p .bool]
abbrev fs52 : List Fk := [.p .str, .p .str, .p .str]
abbrev fs105 : List Fk := [.p .i, .omap .str (.ptr 108), .p .i, .p .bool]
abbrev fs108 : List Fk := [.p .str, .p .i]
abbrev fs116 : List Fk := [.p (.ptr 105), .p .str]
abbrev fs128 : List Fk := [.p (.ptr 105), .p .str, .p .i, .p (.list (.ptr 130)), .p .i]
abbrev fs130 : List Fk := [.p .i, .p (.list .str), .p .i]
abbrev fs100003 : List Fk := [.p .i]
abbrev fs100009 : List Fk := [.p .str]
abbrev fs100024 : List Fk := [.p (.ptr 105)]
abbrev fs100106 : List Fk := [.p (.ptr 108)]
structure St where
  t47 : List (denFs fs47)
  t52 : List (denFs fs52)
  t105 : List (denFs fs105)
  t108 : List (denFs fs108)
  t116 : List (denFs fs116)
  t128 : List (denFs fs128)
  t130 : List (denFs fs130)
  t100003 : List (denFs fs100003)
  t100009 : List (denFs fs100009)
  t100024 : List (denFs fs100024)
  t100106 : List (denFs fs100106)
def tabs (s : St) : Tabs := fun t => if t = 47 then some ⟨fs47, s.t47⟩ else if t = 52 then some ⟨fs52, s.t52⟩ else if t = 105 then some ⟨fs105, s.t105⟩ else if t = 108 then some ⟨fs108, s.t108⟩ else if t = 116 then some ⟨fs116, s.t116⟩ else if t = 128 then some ⟨fs128, s.t128⟩ else if t = 130 then some ⟨fs130, s.t130⟩ else if t = 100003 then some ⟨fs100003, s.t100003⟩ else if t = 100009 then some ⟨fs100009, s.t100009⟩ else if t = 100024 then some ⟨fs100024, s.t100024⟩ else if t = 100106 then some ⟨fs100106, s.t100106⟩ else none
def St.set47 (s : St) (i : Nat) (x : denFs fs47) : St := { s with t47 := s.t47.set i x }
theorem set47_get {s : St} {i : Nat} {o x : denFs fs47} (h : s.t47[i]? = some o) : (s.set47 i x).t47[i]? = some x := by simp [St.set47, (List.getElem?_eq_some_iff.1 h).1]
def St.add47 (s : St) (x : denFs fs47) : St := { s with t47 := s.t47 ++ [x] }
theorem got47 {s : St} {x : denFs fs47} : (s.add47 x).t47[s.t47.length]? = some x := by simp [St.add47]
theorem addT47 {s : St} {x : denFs fs47} : AddT (tabs s) (tabs (s.add47 x)) 47 s.t47.length fs47 x := ⟨s.t47, rfl, rfl, rfl, fun t h => by simp [tabs, St.add47, h]⟩
theorem ob47 {s : St} {i : Nat} {x : denFs fs47} (h : s.t47[i]? = some x) : ObAt (tabs s) 47 i fs47 x := ⟨s.t47, rfl, h⟩
theorem upd47 {s : St} {i : Nat} {x : denFs fs47} : UpdT (tabs s) (tabs (s.set47 i x)) 47 i fs47 x := ⟨⟨s.t47, rfl, rfl⟩, fun t h => by simp [tabs, St.set47, h]⟩
def St.set52 (s : St) (i : Nat) (x : denFs fs52) : St := { s with t52 := s.t52.set i x }
theorem set52_get {s : St} {i : Nat} {o x : denFs fs52} (h : s.t52[i]? = some o) : (s.set52 i x).t52[i]? = some x := by simp [St.set52, (List.getElem?_eq_some_iff.1 h).1]
def St.add52 (s : St) (x : denFs fs52) : St := { s with t52 := s.t52 ++ [x] }
theorem got52 {s : St} {x : denFs fs52} : (s.add52 x).t52[s.t52.length]? = some x := by simp [St.add52]
theorem addT52 {s : St} {x : denFs fs52} : AddT (tabs s) (tabs (s.add52 x)) 52 s.t52.length fs52 x := ⟨s.t52, rfl, rfl, rfl, fun t h => by simp [tabs, St.add52, h]⟩
theorem ob52 {s : St} {i : Nat} {x : denFs fs52} (h : s.t52[i]? = some x) : ObAt (tabs s) 52 i fs52 x := ⟨s.t52, rfl, h⟩
theorem upd52 {s : St} {i : Nat} {x : denFs fs52} : UpdT (tabs s) (tabs (s.set52 i x)) 52 i fs52 x := ⟨⟨s.t52, rfl, rfl⟩, fun t h => by simp [tabs, St.set52, h]⟩
def St.set105 (s : St) (i : Nat) (x : denFs fs105) : St := { s with t105 := s.t105.set i x }
theorem set105_get {s : St} {i : Nat} {o x : denFs fs105} (h : s.t105[i]? = some o) : (s.set105 i x).t105[i]? = some x := by simp [St.set105, (List.getElem?_eq_some_iff.1 h).1]
def St.add105 (s : St) (x : denFs fs105) : St := { s with t105 := s.t105 ++ [x] }
theorem got105 {s : St} {x : denFs fs105} : (s.add105 x).t105[s.t105.length]? = some x := by simp [St.add105]
theorem addT105 {s : St} {x : denFs fs105} : AddT (tabs s) (tabs (s.add105 x)) 105 s.t105.length fs105 x := ⟨s.t105, rfl, rfl, rfl, fun t h => by simp [tabs, St.add105, h]⟩
theorem ob105 {s : St} {i : Nat} {x : denFs fs105} (h : s.t105[i]? = some x) : ObAt (tabs s) 105 i fs105 x := ⟨s.t105, rfl, h⟩
theorem upd105 {s : St} {i : Nat} {x : denFs fs105} : UpdT (tabs s) (tabs (s.set105 i x)) 105 i fs105 x := ⟨⟨s.t105, rfl, rfl⟩, fun t h => by simp [tabs, St.set105, h]⟩
def St.set108 (s : St) (i : Nat) (x : denFs fs108) : St := { s with t108 := s.t108.set i x }
theorem set108_get {s : St} {i : Nat} {o x : denFs fs108} (h : s.t108[i]? = some o) : (s.set108 i x).t108[i]? = some x := by simp [St.set108, (List.getElem?_eq_some_iff.1 h).1]
def St.add108 (s : St) (x : denFs fs108) : St := { s with t108 := s.t108 ++ [x] }
theorem got108 {s : St} {x : denFs fs108} : (s.add108 x).t108[s.t108.length]? = some x := by simp [St.add108]
theorem addT108 {s : St} {x : denFs fs108} : AddT (tabs s) (tabs (s.add108 x)) 108 s.t108.length fs108 x := ⟨s.t108, rfl, rfl, rfl, fun t h => by simp [tabs, St.add108, h]⟩
theorem ob108 {s : St} {i : Nat} {x : denFs fs108} (h : s.t108[i]? = some x) : ObAt (tabs s) 108 i fs108 x := ⟨s.t108, rfl, h⟩
theorem upd108 {s : St} {i : Nat} {x : denFs fs108} : UpdT (tabs s) (tabs (s.set108 i x)) 108 i fs108 x := ⟨⟨s.t108, rfl, rfl⟩, fun t h => by simp [tabs, St.set108, h]⟩
def St.set116 (s : St) (i : Nat) (x : denFs fs116) : St := { s with t116 := s.t116.set i x }
theorem set116_get {s : St} {i : Nat} {o x : denFs fs116} (h : s.t116[i]? = some o) : (s.set116 i x).t116[i]? = some x := by simp [St.set116, (List.getElem?_eq_some_iff.1 h).1]
def St.add116 (s : St) (x : denFs fs116) : St := { s with t116 := s.t116 ++ [x] }
theorem got116 {s : St} {x : denFs fs116} : (s.add116 x).t116[s.t116.length]? = some x := by simp [St.add116]
theorem addT116 {s : St} {x : denFs fs116} : AddT (tabs s) (tabs (s.add116 x)) 116 s.t116.length fs116 x := ⟨s.t116, rfl, rfl, rfl, fun t h => by simp [tabs, St.add116, h]⟩
theorem ob116 {s : St} {i : Nat} {x : denFs fs116} (h : s.t116[i]? = some x) : ObAt (tabs s) 116 i fs116 x := ⟨s.t116, rfl, h⟩
theorem upd116 {s : St} {i : Nat} {x : denFs fs116} : UpdT (tabs s) (tabs (s.set116 i x)) 116 i fs116 x := ⟨⟨s.t116, rfl, rfl⟩, fun t h => by simp [tabs, St.set116, h]⟩
def St.set128 (s : St) (i : Nat) (x : denFs fs128) : St := { s with t128 := s.t128.set i x }
theorem set128_get {s : St} {i : Nat} {o x : denFs fs128} (h : s.t128[i]? = some o) : (s.set128 i x).t128[i]? = some x := by simp [St.set128, (List.getElem?_eq_some_iff.1 h).1]
def St.add128 (s : St) (x : denFs fs128) : St := { s with t128 := s.t128 ++ [x] }
theorem got128 {s : St} {x : denFs fs128} : (s.add128 x).t128[s.t128.length]? = some x := by simp [St.add128]
theorem addT128 {s : St} {x : denFs fs128} : AddT (tabs s) (tabs (s.add128 x)) 128 s.t128.length fs128 x := ⟨s.t128, rfl, rfl, rfl, fun t h => by simp [tabs, St.add128, h]⟩
theorem ob128 {s : St} {i : Nat} {x : denFs fs128} (h : s.t128[i]? = some x) : ObAt (tabs s) 128 i fs128 x := ⟨s.t128, rfl, h⟩
theorem upd128 {s : St} {i : Nat} {x : denFs fs128} : UpdT (tabs s) (tabs (s.set128 i x)) 128 i fs128 x := ⟨⟨s.t128, rfl, rfl⟩, fun t h => by simp [tabs, St.set128, h]⟩
def St.set130 (s : St) (i : Nat) (x : denFs fs130) : St := { s with t130 := s.t130.set i x }
theorem set130_get {s : St} {i : Nat} {o x : denFs fs130} (h : s.t130[i]? = some o) : (s.set130 i x).t130[i]? = some x := by simp [St.set130, (List.getElem?_eq_some_iff.1 h).1]
def St.add130 (s : St) (x : denFs fs130) : St := { s with t130 := s.t130 ++ [x] }
theorem got130 {s : St} {x : denFs fs130} : (s.add130 x).t130[s.t130.length]? = some x := by simp [St.add130]
theorem addT130 {s : St} {x : denFs fs130} : AddT (tabs s) (tabs (s.add130 x)) 130 s.t130.length fs130 x := ⟨s.t130, rfl, rfl, rfl, fun t h => by simp [tabs, St.add130, h]⟩
theorem ob130 {s : St} {i : Nat} {x : denFs fs130} (h : s.t130[i]? = some x) : ObAt (tabs s) 130 i fs130 x := ⟨s.t130, rfl, h⟩
theorem upd130 {s : St} {i : Nat} {x : denFs fs130} : UpdT (tabs s) (tabs (s.set130 i x)) 130 i fs130 x := ⟨⟨s.t130, rfl, rfl⟩, fun t h => by simp [tabs, St.set130, h]⟩
def St.set100003 (s : St) (i : Nat) (x : denFs fs100003) : St := { s with t100003 := s.t100003.set i x }
theorem set100003_get {s : St} {i : Nat} {o x : denFs fs100003} (h : s.t100003[i]? = some o) : (s.set100003 i x).t100003[i]? = some x := by simp [St.set100003, (List.getElem?_eq_some_iff.1 h).1]
def St.add100003 (s : St) (x : denFs fs100003) : St := { s with t100003 := s.t100003 ++ [x] }
theorem got100003 {s : St} {x : denFs fs100003} : (s.add100003 x).t100003[s.t100003.length]? = some x := by simp [St.add100003]
theorem addT100003 {s : St} {x : denFs fs100003} : AddT (tabs s) (tabs (s.add100003 x)) 100003 s.t100003.length fs100003 x := ⟨s.t100003, rfl, rfl, rfl, fun t h => by simp [tabs, St.add100003, h]⟩
theorem ob100003 {s : St} {i : Nat} {x : denFs fs100003} (h : s.t100003[i]? = some x) : ObAt (tabs s) 100003 i fs100003 x := ⟨s.t100003, rfl, h⟩
theorem upd100003 {s : St} {i : Nat} {x : denFs fs100003} : UpdT (tabs s) (tabs (s.set100003 i x)) 100003 i fs100003 x := ⟨⟨s.t100003, rfl, rfl⟩, fun t h => by simp [tabs, St.set100003, h]⟩
def St.set100009 (s : St) (i : Nat) (x : denFs fs100009) : St := { s with t100009 := s.t100009.set i x }
theorem set100009_get {s : St} {i : Nat} {o x : denFs fs100009} (h : s.t100009[i]? = some o) : (s.set100009 i x).t100009[i]? = some x := by simp [St.set100009, (List.getElem?_eq_some_iff.1 h).1]
def St.add100009 (s : St) (x : denFs fs100009) : St := { s with t100009 := s.t100009 ++ [x] }
theorem got100009 {s : St} {x : denFs fs100009} : (s.add100009 x).t100009[s.t100009.length]? = some x := by simp [St.add100009]
theorem addT100009 {s : St} {x : denFs fs100009} : AddT (tabs s) (tabs (s.add100009 x)) 100009 s.t100009.length fs100009 x := ⟨s.t100009, rfl, rfl, rfl, fun t h => by simp [tabs, St.add100009, h]⟩
theorem ob100009 {s : St} {i : Nat} {x : denFs fs100009} (h : s.t100009[i]? = some x) : ObAt (tabs s) 100009 i fs100009 x := ⟨s.t100009, rfl, h⟩
theorem upd100009 {s : St} {i : Nat} {x : denFs fs100009} : UpdT (tabs s) (tabs (s.set100009 i x)) 100009 i fs100009 x := ⟨⟨s.t100009, rfl, rfl⟩, fun t h => by simp [tabs, St.set100009, h]⟩
def St.set100024 (s : St) (i : Nat) (x : denFs fs100024) : St := { s with t100024 := s.t100024.set i x }
theorem set100024_get {s : St} {i : Nat} {o x : denFs fs100024} (h : s.t100024[i]? = some o) : (s.set100024 i x).t100024[i]? = some x := by simp [St.set100024, (List.getElem?_eq_some_iff.1 h).1]
def St.add100024 (s : St) (x : denFs fs100024) : St := { s with t100024 := s.t100024 ++ [x] }
theorem got100024 {s : St} {x : denFs fs100024} : (s.add100024 x).t100024[s.t100024.length]? = some x := by simp [St.add100024]
theorem addT100024 {s : St} {x : denFs fs100024} : AddT (tabs s) (tabs (s.add100024 x)) 100024 s.t100024.length fs100024 x := ⟨s.t100024, rfl, rfl, rfl, fun t h => by simp [tabs, St.add100024, h]⟩
theorem ob100024 {s : St} {i : Nat} {x : denFs fs100024} (h : s.t100024[i]? = some x) : ObAt (tabs s) 100024 i fs100024 x := ⟨s.t100024, rfl, h⟩
theorem upd100024 {s : St} {i : Nat} {x : denFs fs100024} : UpdT (tabs s) (tabs (s.set100024 i x)) 100024 i fs100024 x := ⟨⟨s.t100024, rfl, rfl⟩, fun t h => by simp [tabs, St.set100024, h]⟩
def St.set100106 (s : St) (i : Nat) (x : denFs fs100106) : St := { s with t100106 := s.t100106.set i x }
theorem set100106_get {s : St} {i : Nat} {o x : denFs fs100106} (h : s.t100106[i]? = some o) : (s.set100106 i x).t100106[i]? = some x := by simp [St.set100106, (List.getElem?_eq_some_iff.1 h).1]
def St.add100106 (s : St) (x : denFs fs100106) : St := { s with t100106 := s.t100106 ++ [x] }
theorem got100106 {s : St} {x : denFs fs100106} : (s.add100106 x).t100106[s.t100106.length]? = some x := by simp [St.add100106]
theorem addT100106 {s : St} {x : denFs fs100106} : AddT (tabs s) (tabs (s.add100106 x)) 100106 s.t100106.length fs100106 x := ⟨s.t100106, rfl, rfl, rfl, fun t h => by simp [tabs, St.add100106, h]⟩
theorem ob100106 {s : St} {i : Nat} {x : denFs fs100106} (h : s.t100106[i]? = some x) : ObAt (tabs s) 100106 i fs100106 x := ⟨s.t100106, rfl, h⟩
theorem upd100106 {s : St} {i : Nat} {x : denFs fs100106} : UpdT (tabs s) (tabs (s.set100106 i x)) 100106 i fs100106 x := ⟨⟨s.t100106, rfl, rfl⟩, fun t h => by simp [tabs, St.set100106, h]⟩
end Go.Proofs.Ytlfemhkabjafeaa.M
