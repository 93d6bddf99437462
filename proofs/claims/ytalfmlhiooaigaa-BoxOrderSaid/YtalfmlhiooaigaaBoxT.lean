/- BoxOrder, with the reading of its argument. -/
import Derived.Test.YtalfmlhiooaigaaBoxS
import Derived.Test.YtalfmlhiooaigaaMsgIn
